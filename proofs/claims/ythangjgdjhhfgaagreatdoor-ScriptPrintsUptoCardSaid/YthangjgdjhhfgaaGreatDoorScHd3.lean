/- What the row of ScriptPrints lays. -/
import Derived.Test.YthangjgdjhhfgaaGreatDoorScHd
import Derived.Test.YthangjgdjhhfgaaGreatDoorRows
import Derived.Lib.LaidTab
import Derived.Stop.LaidErr
namespace Go.Proofs.YthangjgdjhhfgaaGreatDoor
open Go.RowKit
set_option linter.unusedVariables false
theorem tab_of {W : World} {name : String} {k : IntKind} {zs : List Int} {g : Nat} (hg : Tryz.prog.globalNamed name = some g) (h : Lib.TabIs Tryz.prog W name k zs) (h0 : 0 < zs.length) : W.rangeAt g 0 (zs.map (Value.int k)) ∧ g < W.heap.size := by
  have hr : W.rangeAt g 0 (zs.map (Value.int k)) := fun j v hv => by
    have hj : j < zs.length := by simpa using (List.getElem?_eq_some_iff.1 hv).1
    rw [Nat.zero_add, h.cell hg j hj, ← hv]
    simp [hj]
  refine ⟨hr, ?_⟩
  have hc := h.cell hg 0 h0
  apply Classical.byContradiction
  intro hge
  simp [World.cell?, Array.getElem?_eq_none (Nat.le_of_not_lt hge)] at hc

structure Vars0 (W : World) : Prop where
  pow : Pow10 W
  err : ErrAt W
  g1 : 1 < W.heap.size
theorem script_laid {W : World} (h : laidMet Tryz.prog Rows.scriptPrintsUptoRow.laid W) : Vars0 W := by
  have e3 : (Rows.laid_internal_strconv_uint64pow10 : DataW Unit) = Lib.tabData .u64 Lib.pow10Tab := by kernel_rfl
  simp only [Rows.scriptPrintsUptoRow] at h
  have h5 := h.tail.tail.tail.tail
  rw [e3] at h
  have t3 := Lib.tabIs_of_head (g:= 1) (by kernel_rfl) (by kernel_rfl) Tryz.underlying116 Tryz.underlying29 (by kernel_rfl) (by kernel_rfl) h.tail.tail
  refine ⟨t3, ?_, (tab_of (by kernel_rfl) t3 (by decide)).2⟩
  obtain ⟨a0, sa, hva, _, _, _⟩ := laid_sentinel (ti := 48) (tp := 142) (te := 144) (ts := 9) h5 (g := 5) (by kernel_rfl) (by kernel_rfl) Tryz.underlying48 err_row Tryz.underlying142 Tryz.underlying144 rfl rfl Tryz.underlying9 (by kernel_rfl) (by kernel_rfl)
  obtain ⟨b0, sb, hvb, _, _, _⟩ := laid_sentinel (ti := 48) (tp := 142) (te := 144) (ts := 9) h5.tail (g := 4) (by kernel_rfl) (by kernel_rfl) Tryz.underlying48 err_row Tryz.underlying142 Tryz.underlying144 rfl rfl Tryz.underlying9 (by kernel_rfl) (by kernel_rfl)
  exact ⟨⟨_, var_cell (by kernel_rfl) hvb, .inr ⟨_, _, rfl⟩⟩, _, var_cell (by kernel_rfl) hva, .inr ⟨_, _, rfl⟩⟩
theorem Vars0.vars {W : World} (h : Vars0 W) (hS : W.ShapedOpen Tryz.prog) : Vars W := by
  have hm := MaxLenAt.of hS
  refine ⟨h.pow, h.err, hm, h.g1, ?_, ?_⟩
  · obtain ⟨m, hm⟩ := hm
    exact lt_of_cell hm
  · obtain ⟨⟨_, h1, _⟩, _, h2, _⟩ := h.err
    exact ⟨lt_of_cell h1, lt_of_cell h2⟩
end Go.Proofs.YthangjgdjhhfgaaGreatDoor
