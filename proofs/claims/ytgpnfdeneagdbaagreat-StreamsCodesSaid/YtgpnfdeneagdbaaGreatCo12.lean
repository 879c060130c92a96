/- A stream's parts, where nothing came: what a frame without bytes does. -/
import Derived.Test.YtgpnfdeneagdbaaGreatCo11
import Derived.Test.YtgpnfdeneagdbaaGreatRfV
import Derived.Test.YtgpnfdeneagdbaaGreatPrt
namespace Go.Proofs.YtgpnfdeneagdbaaGreat
open Go.RowKit
set_option linter.unusedVariables false
theorem mixedS : Tryz.prog.follows .mixedOrders = true := by kernel_rfl
theorem join_nil (W : World) : Calls Tryz.prog 106 #[.slice none 0 0, .slice none 0 0] W fun e W' => e = .returned (.slice none 0 0) ∧ Below W.heap.size W W' :=
  Rf.runs_val (args := [.slice none 0 0, .slice none 0 0]) (k := 60) mixedS (by kernel_rfl) W
/-- The parts of a stream, in a block of their own. -/
def sdV (x : Strm) : List Value := (ssV x).drop 1
def SdAt (w : World) (q : Nat) (x : Strm) : Prop := Blk w q (sdV x).toArray 99
set_option maxRecDepth 100000 in
theorem used_any (q : Nat) (x : Strm) (w : World) (h : SdAt w q x) : Calls Tryz.prog 77 #[.pointer (some ⟨q, 14, none⟩)] w fun e w' => w' = w ∧ e = .returned (.int .u64 0) := by
  have c15 : w.cell? ⟨q, 15, none⟩ = some (.int .u64 0) := h.cell 15 _ rfl
  have c22 : w.cell? ⟨q, 22, none⟩ = some (.bool false) := h.cell 22 _ rfl
  have c24 : w.cell? ⟨q, 24, none⟩ = some (.bool false) := h.cell 24 _ rfl
  clear h
  go_enter Tryz.func77, Tryz.ntmps77
  go_wp2_with (fail)
  go_returns
  exact ⟨rfl, rfl⟩
set_option maxRecDepth 100000 in
theorem may_nil (q : Nat) (x : Strm) (w : World) (h : SdAt w q x) : Calls Tryz.prog 104 #[.pointer (some ⟨q, 14, none⟩), .int .u64 0, .bool false] w fun e w' => w' = w ∧ e = .returned (.int .i64 0) := by
  have c18 : w.cell? ⟨q, 18, none⟩ = some (.int .u64 x.served) := h.cell 18 _ rfl
  have c19 : w.cell? ⟨q, 19, none⟩ = some (.bool false) := h.cell 19 _ rfl
  clear h
  have hn : ¬ ((x.served : Int) < 0) := by omega
  go_enter Tryz.func104, Tryz.ntmps104
  go_wp2_with (fail)
  go_returns
  exact ⟨rfl, rfl⟩
set_option maxRecDepth 100000 in
theorem end_nil (q : Nat) (x : Strm) (w : World) (h : SdAt w q x) : Calls Tryz.prog 108 #[.pointer (some ⟨q, 14, none⟩)] w fun e w' => Below w.heap.size w w' ∧ e = .returned (.int .u64 0) := by
  have c14 : w.cell? ⟨q, 14, none⟩ = some (.slice none 0 0) := h.cell 14 _ rfl
  have c15 : w.cell? ⟨q, 15, none⟩ = some (.int .u64 0) := h.cell 15 _ rfl
  clear h
  go_enter Tryz.func108, Tryz.ntmps108
  go_wp2_with (fail)
  refine rg_start 14 ?_
  refine rg_same fun p hx hne hC => ?_
  refine rg_quiet 0 [0,1,2,3,4,5,6,7,8,9,10,11,12,13] hC ?_
  simp only [pickD, List.map_cons, List.map_nil, List.getD_cons_zero, List.getD_cons_succ]; repeat (go_big_quiet_step (fail))
  refine wpQuiet_nil ?_
  refine rg_end ?_
  go_wp2_with (fail)
  go_returns
  exact ⟨(Below.refl _ _).drew, rfl⟩
theorem sd_put {w : World} {q : Nat} {x : Strm} (h : SdAt w q x) (k : Nat) (v : Value) (hk : (sdV x)[k]? = some v) : SdAt (w.setCell ⟨q, k, none⟩ v) q x := by
  have h2 := Blk.set h k v
  unfold SdAt
  refine h2.congr ?_
  apply Array.ext'
  simp only [Array.toList_setIfInBounds]
  apply List.ext_getElem?
  intro i
  by_cases e : k = i
  · subst e
    rw [List.getElem?_set_self ((List.getElem?_eq_some_iff.1 hk).1), hk]
  · rw [List.getElem?_set_ne e]
set_option maxRecDepth 100000 in
theorem comes_nil (q : Nat) (x : Strm) (w : World) (h : SdAt w q x) : Calls Tryz.prog 105 #[.pointer (some ⟨q, 14, none⟩), .int .u64 0, .bool false] w fun e w' => e = .returned (.int .u64 0) ∧ Only (· = q) w w' ∧ SdAt w' q x := by
  have H := Lib.hid h
  have c17 : w.cell? ⟨q, 17, none⟩ = some (.int .u64 0) := h.cell 17 _ rfl
  have f17 := h.free 17
  clear h
  go_enter Tryz.func105, Tryz.ntmps105
  go_wp2_with (fail)
  refine rg_start 14 ?_
  refine rg_same fun p hx hne hC => ?_
  refine rg_quiet 0 [0,1,2,3,4,5,6,7,8,9,10,11,12,13] hC ?_
  simp only [pickD, List.map_cons, List.map_nil, List.getD_cons_zero, List.getD_cons_succ]; repeat (go_big_quiet_step (fail))
  refine wpQuiet_nil ?_
  refine rg_end ?_
  go_wp2_with (fail)
  go_returns
  exact ⟨rfl, (Only.refl (· = q) _).drew.set _ _, sd_put (x := x) (w := w.drew) H.out 17 _ rfl⟩
set_option maxRecDepth 100000 in
set_option maxHeartbeats 4000000 in
theorem gaps1_nil (q bo bi bu bb : Nat) (x : Strm) (w : World) (h : SdAt w q x) (h1 : w.cell? ⟨bo, 0, none⟩ = some (.int .u64 0)) (h2 : w.cell? ⟨bi, 0, none⟩ = some (.pointer (some ⟨q, 14, none⟩))) (hlt : bo < w.heap.size ∧ bi < w.heap.size) :
    Calls Tryz.prog 122 #[.int .u64 0, .int .u64 0, .pointer (some ⟨bo, 0, none⟩), .pointer (some ⟨bi, 0, none⟩), .pointer (some ⟨bu, 0, none⟩), .pointer (some ⟨bb, 0, none⟩)] w fun e w' => Below w.heap.size w w' ∧ e = .returned (.tuple #[]) := by
  have HE := Lib.hid (end_nil q x w.drew h)
  have hl1 := hlt.1
  have hl2 := hlt.2
  clear h hlt
  go_enter Tryz.func122, Tryz.ntmps122
  go_wp2_with (fail)
  refine rg_start 6 ?_
  refine rg_below fun p hx hne hC hbel => ?_
  have k1 : ∀ z : Wd p, z.w.cell? ⟨bo, 0, none⟩ = some (.int .u64 0) := fun z => (hx z _ _ _ hl1).trans h1
  have k2 : ∀ z : Wd p, z.w.cell? ⟨bi, 0, none⟩ = some (.pointer (some ⟨q, 14, none⟩)) := fun z => (hx z _ _ _ hl2).trans h2
  refine rg_quiet 3 [0,1,2] hC ?_
  simp only [pickD, List.map_cons, List.map_nil, List.getD_cons_zero, List.getD_cons_succ]; repeat (go_big_quiet_step (fail))
  refine wpQuiet_nil ?_
  refine rg_act 3 ?_
  go_wp2_with (fail)
  refine HE.out.mono ?_
  rintro e w1 ⟨hb, rfl⟩
  have hC1 := hbel _ hb
  go_wp2_with (fail)
  refine ⟨hC1, ?_⟩
  refine rg_quiet 0 [4,5] hC1 ?_
  simp only [pickD, List.map_cons, List.map_nil, List.getD_cons_zero, List.getD_cons_succ]; repeat (go_big_quiet_step (fail))
  refine wpQuiet_nil ?_
  refine rg_end ?_
  clear hx hne hC hC1 hbel k1 k2
  go_wp2_with (fail)
  go_returns
  exact ⟨(Below.refl w.heap.size w).drew.trans hb, rfl⟩
end Go.Proofs.YtgpnfdeneagdbaaGreat
