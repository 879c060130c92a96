/- A set of streams: slices.Clone. -/
import Derived.Test.YtgpnfdeneagdbaaGreatCo7
namespace Go.Proofs.YtgpnfdeneagdbaaGreat
open Go.RowKit
set_option linter.unusedVariables false
section
variable {ops : Array Oper} {rest : List Oper} {o : Oper} {a : Act} {w : World} {Q : Exit → Act → World → Prop}
theorem stop_bs {P : Program} {d : Option Tmp} {t : TypeId} {n : Nat} {x : Array (Nat × Operand)} {ty : TypeId} {pos : String} {aft : Array Edge} {g : Option (Nat × Bool)}
    (h : Stop (wpList P ops Q (⟨d, .buildSlice t n x, ty, pos, aft, g⟩ :: rest) a w)) : wpList P ops Q (⟨d, .buildSlice t n x, ty, pos, aft, g⟩ :: rest) a w := h
theorem wpList_bs0 (hg : o.guard = none) (ho : o.op = .buildSlice 52 0 #[])
    (h : wpList Tryz.prog ops Q rest (a.put o.dst (.slice (some ⟨w.heap.size, 0, none⟩) 0 0)) (w.alloc (.cells #[] 68))) : wpList Tryz.prog ops Q (o :: rest) a w := by
  obtain ⟨ie, z, hu, hie, hz, hs, hb, hc, hp⟩ := (ss_et : ET Tryz.prog 52 68 28 256)
  have hr : (Instr.buildSlice 52 0 #[]).run Tryz.prog w = .ok (.slice (some ⟨w.heap.size, 0, none⟩) 0 0) (w.alloc (.cells #[] 68)) := by
    simp [Instr.buildSlice, run_underlying hu, sizeOf, typeInfo, hie, newRow, Instr.fill, Array.range_zero']
  refine wpList_plain hg fun K hK => ?_
  unfold Oper.wp execOp
  have he : ((#[] : Array (Nat × Operand)).map fun (i, x) => (i, a.eval x)) = #[] := by simp
  simp only [ho, he, Sem.run_bind, hr, Result.andThen_ok]
  exact hK _ _ h
end
theorem OwnS.srcK {w : World} {base n cap k : Nat} {a : Option Addr} {e : TypeId} {xs : List Value} (h : OwnS w base e k a n cap xs) (h1 : ∀ u ∈ xs, u.oneCell' = true) : SrcAt w a n cap k xs := by
  refine ⟨h.length, fun ha => h.none_of ha, fun x hx j u hj => ?_, h1⟩
  have hlt := (List.getElem?_eq_some_iff.1 hj).1
  obtain ⟨g, hg, _, _, hc, _⟩ := h.at_ hlt
  rw [hx] at hg
  cases hg
  rw [addr_add, Nat.zero_add, hc]; exact hj
def ClonePost (base n : Nat) (L : List Strm) (w : World) (e : Ending) (w' : World) : Prop := ∃ a' c', e = .returned (.slice a' n c') ∧ OwnS w' base 68 28 a' n c' (L.flatMap ssV) ∧ Below w.heap.size w w' ∧ ∀ y, a' = some y → w.heap.size ≤ y.block
set_option maxRecDepth 100000 in
set_option maxHeartbeats 2000000 in
theorem clone_any (base : Nat) (a : Option Addr) (n cap : Nat) (L : List Strm) (w : World) (hO : OwnS w base 68 28 a n cap (L.flatMap ssV)) (hn : n ≤ 256) (hb : base ≤ w.heap.size) :
    Calls Tryz.prog 70 #[.slice a n cap] w fun e w' => ClonePost base n L w e w' := by
  have hq : ∀ (w : World) (a : Option Addr) (n c n' c' : Nat), (binOp .eql 52 (.slice a n c) (.slice none n' c')).run Tryz.prog w = .ok (.bool a.isNone) w := fun w a n c n' c' => Lib.run_eql_slice_nil w _ _ a n c n' c' Tryz.underlying52
  have HO := Lib.hid hO
  cases a with
  | none =>
    obtain ⟨rfl, rfl⟩ := hO.none_of rfl
    clear hO
    go_enter Tryz.func70, Tryz.ntmps70
    go_wp2_with (fail)
    go_returns
    exact ⟨none, 0, rfl, HO.out, Below.refl _ _, fun y h => by cases h⟩
  | some ad =>
    clear hO
    go_enter Tryz.func70, Tryz.ntmps70
    go_wp2_with (at_builtin; refine Stop.mk ?_)
    refine Stop.out ?_
    have hB : Below w.heap.size w (w.alloc (.cells #[] 68)) := (Below.refl _ _).alloc (Nat.le_refl _) _
    have hN : OwnS (w.alloc (.cells #[] 68)) base 68 28 (some ⟨w.heap.size, 0, none⟩) 0 0 [] := OwnS.new w base hb 68 28 0 #[] (by unfold maxLen; omega) rfl
    refine wpList_app ss_et rfl rfl rfl rfl hN ((HO.out.below hB).srcK (sss_one L)) (by unfold maxLen; omega) (by omega) (Nat.le_trans hb hB.size) ?_
    intro a2 c2 w2 ho2 on2 hat
    rw [Nat.zero_add] at ho2 ⊢
    rw [List.nil_append] at ho2
    have H2 := Lib.hid ho2
    have B2 := Lib.hid (below_onto hB on2 hB.size (fun k hk hs => by obtain ⟨y, hy, e⟩ := hs; cases hy; simp at e; omega))
    have HAT : Hid (∀ y, a2 = some y → w.heap.size ≤ y.block) := Lib.hid (fun y hy => by
      rcases hat y hy with ⟨z, hz, e⟩ | e
      · cases hz; rw [e]; exact Nat.le_refl _
      · rw [e]; exact hB.size)
    clear ho2 on2 hat hB hN
    go_wp2_with (fail)
    go_returns
    exact ⟨a2, c2, rfl, H2.out, B2.out, HAT.out⟩
end Go.Proofs.YtgpnfdeneagdbaaGreat
