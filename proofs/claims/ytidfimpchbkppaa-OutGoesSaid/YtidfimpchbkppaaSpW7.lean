/- Walks: Concat of two; neat. -/
import Derived.Test.YtidfimpchbkppaaSpW6
import Derived.Test.YtidfimpchbkppaaSpW1
namespace Go.Proofs.Ytidfimpchbkppaa
open Go.RowKit
set_option linter.unusedVariables false

set_option maxRecDepth 100000 in
set_option maxHeartbeats 1000000 in
theorem concat_any (q : Nat) (a b : Option Addr) (n m cap cap' : Nat) (A B : List Rg) (w : World) (hn : n = A.length) (hm : m = B.length) (hq : Blk w q #[.slice a n cap, .slice b m cap'] 22) (hA : Rs w a cap A) (hB : Rs w b cap' B) (lA : A.length ≤ 400000) (lB : B.length ≤ 400000) :
    Calls Try.prog 66 #[.slice (some ⟨q, 0, none⟩) 2 2] w fun e w' => Below w.heap.size w w' ∧ ∃ a' c', e = .returned (.slice a' (A ++ B).length c') ∧ OwnS w' w.heap.size 31 2 a' (A ++ B).length c' (cellsR (A ++ B)) := by
  subst hn hm
  have hqlt := hq.lt
  have c0 := hq.cell 0 _ rfl
  have c1 := hq.cell 1 _ rfl
  have HA := Lib.hid hA
  have HB := Lib.hid hB
  have hgr := grow_any (A.length + B.length) w (by omega)
  rw [Int.natCast_add] at hgr
  have HG := Lib.hid hgr
  clear hq hA hB hgr
  go_enter Try.func66, Try.ntmps66
  go_wp2_with (fail)
  refine wp_loop_rounds 3 ?_
  rw [rounds_succ]
  go_wp2_with (fail)
  rw [rounds_succ]
  go_wp2_with (fail)
  rw [rounds_succ]
  go_wp2_with (fail)
  refine HG.out.mono ?_
  rintro e w1 ⟨hb1, a1, cc1, rfl, ho1⟩
  have d0 := (hb1.cell (p := ⟨q, 0, none⟩) hqlt).trans c0
  have d1 := (hb1.cell (p := ⟨q, 1, none⟩) hqlt).trans c1
  have HO1 := Lib.hid ho1
  have HB1 := Lib.hid hb1
  clear ho1 hb1 HG
  go_wp2_with (fail)
  refine wp_loop_rounds 3 ?_
  rw [rounds_succ]
  go_wp2_with (at_builtin; refine Stop.mk ?_)
  refine Stop.out ?_
  refine wpList_app rg_et rfl rfl (base := w.heap.size) rfl rfl HO1.out (HA.out.below HB1.out).src (by simp only [maxLen]; omega) (by omega) HB1.out.size ?_
  intro a2 cc2 w2 ho2 on2 _
  rw [Nat.zero_add, List.nil_append] at ho2
  simp only [Nat.zero_add]
  have b2 : Below w.heap.size w w2 := below_onto HB1.out on2 HB1.out.size (by rintro z hz ⟨y, hy, rfl⟩; have := (HO1.out.block hy).1; omega)
  have f1 := (b2.cell (p := ⟨q, 1, none⟩) hqlt).trans c1
  have HO2 := Lib.hid ho2
  have HB2 := Lib.hid b2
  clear ho2 on2 b2
  go_wp2_with (fail)
  rw [rounds_succ]
  go_wp2_with (at_builtin; refine Stop.mk ?_)
  refine Stop.out ?_
  refine wpList_app rg_et rfl rfl (base := w.heap.size) rfl rfl HO2.out (HB.out.below HB2.out).src (by simp only [maxLen]; omega) (by omega) HB2.out.size ?_
  intro a3 cc3 w3 ho3 on3 _
  have b3 : Below w.heap.size w w3 := below_onto HB2.out on3 HB2.out.size (by rintro z hz ⟨y, hy, rfl⟩; have := (HO2.out.block hy).1; omega)
  rw [← cellsR_append, ← List.length_append] at ho3
  have HO3 := Lib.hid ho3
  have HB3 := Lib.hid b3
  clear ho3 on3 b3
  go_wp2_with (fail)
  rw [rounds_succ]
  go_wp2_with (fail)
  go_returns
  exact ⟨HB3.out, a3, cc3, by simp, HO3.out⟩
end Go.Proofs.Ytidfimpchbkppaa
