/- The document's field (written by gen_sce3.py). -/
import Derived.Test.YthangjgdjhhfgaaGreatDoorScE2
namespace Go.Proofs.YthangjgdjhhfgaaGreatDoor
open Go.RowKit
set_option linter.unusedVariables false
set_option maxRecDepth 100000 in
set_option maxHeartbeats 8000000 in
theorem rfield_115 (m : Mv) (aB : Option Addr) (nB cB : Nat) (aD : Option Addr) (nD cD : Nat) (w : World) (hB : BR w aB nB m.b) (hD : BR w aD nD m.d) (ok : MvOk m) (hb : m.b.length ≤ 4000000) (hd : m.d.length ≤ 4000000) :
    Calls Tryz.prog 20 #[.agg (mvCs m (.slice aB nB cB) (.slice aD nD cD)), .int .u8 115] w fun e w' => e = .returned (.string (tx (fieldR 115 m))) ∧ Below w.heap.size w w' := by
  have b1 : Below w.heap.size w (w.alloc (.cells (mvCs m (.slice aB nB cB) (.slice aD nD cD)) 35)) := (Below.refl _ _).alloc (Nat.le_refl _) _
  have n1 := Blk.new w (mvCs m (.slice aB nB cB) (.slice aD nD cD)) 35
  have c1 : (w.alloc (.cells (mvCs m (.slice aB nB cB) (.slice aD nD cD)) 35)).cell? ⟨w.heap.size, 1, none⟩ = some (.int .u8 (m.side : Nat)) := n1.cell 1 _ rfl
  obtain ⟨w1, hw1⟩ : ∃ w1, w.alloc (.cells (mvCs m (.slice aB nB cB) (.slice aD nD cD)) 35) = w1 := ⟨_, rfl⟩
  rw [hw1] at b1
  have HB1 := Lib.hid b1
  have HW1 := Lib.hid hw1
  have HOK := Lib.hid ok
  have HB := Lib.hid hB
  have HD := Lib.hid hD
  have HLB := Lib.hid hb
  have HLD := Lib.hid hd
  have hs1 := ok.side
  have hf1 := ok.from_
  have ht1 := ok.to_
  have HC := Lib.hid (digits_any m.side m.side w1 (Nat.le_refl _) (by have := HOK.out.side; omega))
  have HFS : Hid (fieldR 115 m = dig m.side) := Lib.hid rfl
  obtain ⟨fv, hfv⟩ : ∃ x, dig m.side = x := ⟨_, rfl⟩
  rw [hfv] at HC HFS
  clear b1 n1 hw1 ok hB hD hb hd hfv
  go_enter Tryz.func20, Tryz.ntmps20
  go_wp2_with (fail)
  rw [HW1.out]
  refine HC.out.mono ?_
  rintro e w2 ⟨rfl, b2⟩
  have B2 := Lib.hid (below_on HB1.out b2 HB1.out.size)
  clear b2 c1
  go_wp2_with (fail)
  go_returns
  exact ⟨by rw [HFS.out]; rfl, B2.out⟩
set_option maxRecDepth 100000 in
set_option maxHeartbeats 8000000 in
theorem rfield_110 (m : Mv) (aB : Option Addr) (nB cB : Nat) (aD : Option Addr) (nD cD : Nat) (w : World) (hB : BR w aB nB m.b) (hD : BR w aD nD m.d) (ok : MvOk m) (hb : m.b.length ≤ 4000000) (hd : m.d.length ≤ 4000000) :
    Calls Tryz.prog 20 #[.agg (mvCs m (.slice aB nB cB) (.slice aD nD cD)), .int .u8 110] w fun e w' => e = .returned (.string (tx (fieldR 110 m))) ∧ Below w.heap.size w w' := by
  have b1 : Below w.heap.size w (w.alloc (.cells (mvCs m (.slice aB nB cB) (.slice aD nD cD)) 35)) := (Below.refl _ _).alloc (Nat.le_refl _) _
  have n1 := Blk.new w (mvCs m (.slice aB nB cB) (.slice aD nD cD)) 35
  have c1 : (w.alloc (.cells (mvCs m (.slice aB nB cB) (.slice aD nD cD)) 35)).cell? ⟨w.heap.size, 2, none⟩ = some (.int .i64 m.n) := n1.cell 2 _ rfl
  obtain ⟨w1, hw1⟩ : ∃ w1, w.alloc (.cells (mvCs m (.slice aB nB cB) (.slice aD nD cD)) 35) = w1 := ⟨_, rfl⟩
  rw [hw1] at b1
  have HB1 := Lib.hid b1
  have HW1 := Lib.hid hw1
  have HOK := Lib.hid ok
  have HB := Lib.hid hB
  have HD := Lib.hid hD
  have HLB := Lib.hid hb
  have HLD := Lib.hid hd
  have hs1 := ok.side
  have hf1 := ok.from_
  have ht1 := ok.to_
  have HC := Lib.hid (whole_any m.n w1 HOK.out.n0 HOK.out.n1)
  have HFS : Hid (fieldR 110 m = wholeS m.n) := Lib.hid rfl
  obtain ⟨fv, hfv⟩ : ∃ x, wholeS m.n = x := ⟨_, rfl⟩
  rw [hfv] at HC HFS
  clear b1 n1 hw1 ok hB hD hb hd hfv
  go_enter Tryz.func20, Tryz.ntmps20
  go_wp2_with (fail)
  rw [HW1.out]
  refine HC.out.mono ?_
  rintro e w2 ⟨rfl, b2⟩
  have B2 := Lib.hid (below_on HB1.out b2 HB1.out.size)
  clear b2 c1
  go_wp2_with (fail)
  go_returns
  exact ⟨by rw [HFS.out]; rfl, B2.out⟩
set_option maxRecDepth 100000 in
set_option maxHeartbeats 8000000 in
theorem rfield_105 (m : Mv) (aB : Option Addr) (nB cB : Nat) (aD : Option Addr) (nD cD : Nat) (w : World) (hB : BR w aB nB m.b) (hD : BR w aD nD m.d) (ok : MvOk m) (hb : m.b.length ≤ 4000000) (hd : m.d.length ≤ 4000000) :
    Calls Tryz.prog 20 #[.agg (mvCs m (.slice aB nB cB) (.slice aD nD cD)), .int .u8 105] w fun e w' => e = .returned (.string (tx (fieldR 105 m))) ∧ Below w.heap.size w w' := by
  have b1 : Below w.heap.size w (w.alloc (.cells (mvCs m (.slice aB nB cB) (.slice aD nD cD)) 35)) := (Below.refl _ _).alloc (Nat.le_refl _) _
  have n1 := Blk.new w (mvCs m (.slice aB nB cB) (.slice aD nD cD)) 35
  have c1 : (w.alloc (.cells (mvCs m (.slice aB nB cB) (.slice aD nD cD)) 35)).cell? ⟨w.heap.size, 3, none⟩ = some (.int .u64 (m.id : Nat)) := n1.cell 3 _ rfl
  obtain ⟨w1, hw1⟩ : ∃ w1, w.alloc (.cells (mvCs m (.slice aB nB cB) (.slice aD nD cD)) 35) = w1 := ⟨_, rfl⟩
  rw [hw1] at b1
  have HB1 := Lib.hid b1
  have HW1 := Lib.hid hw1
  have HOK := Lib.hid ok
  have HB := Lib.hid hB
  have HD := Lib.hid hD
  have HLB := Lib.hid hb
  have HLD := Lib.hid hd
  have hs1 := ok.side
  have hf1 := ok.from_
  have ht1 := ok.to_
  have HC := Lib.hid (digits_any m.id m.id w1 (Nat.le_refl _) (by have := HOK.out.id; simp only [M64] at this; omega))
  have HFS : Hid (fieldR 105 m = dig m.id) := Lib.hid rfl
  obtain ⟨fv, hfv⟩ : ∃ x, dig m.id = x := ⟨_, rfl⟩
  rw [hfv] at HC HFS
  clear b1 n1 hw1 ok hB hD hb hd hfv
  go_enter Tryz.func20, Tryz.ntmps20
  go_wp2_with (fail)
  rw [HW1.out]
  refine HC.out.mono ?_
  rintro e w2 ⟨rfl, b2⟩
  have B2 := Lib.hid (below_on HB1.out b2 HB1.out.size)
  clear b2 c1
  go_wp2_with (fail)
  go_returns
  exact ⟨by rw [HFS.out]; rfl, B2.out⟩
set_option maxRecDepth 100000 in
set_option maxHeartbeats 8000000 in
theorem rfield_99 (m : Mv) (aB : Option Addr) (nB cB : Nat) (aD : Option Addr) (nD cD : Nat) (w : World) (hB : BR w aB nB m.b) (hD : BR w aD nD m.d) (ok : MvOk m) (hb : m.b.length ≤ 4000000) (hd : m.d.length ≤ 4000000) :
    Calls Tryz.prog 20 #[.agg (mvCs m (.slice aB nB cB) (.slice aD nD cD)), .int .u8 99] w fun e w' => e = .returned (.string (tx (fieldR 99 m))) ∧ Below w.heap.size w w' := by
  have b1 : Below w.heap.size w (w.alloc (.cells (mvCs m (.slice aB nB cB) (.slice aD nD cD)) 35)) := (Below.refl _ _).alloc (Nat.le_refl _) _
  have n1 := Blk.new w (mvCs m (.slice aB nB cB) (.slice aD nD cD)) 35
  have c1 : (w.alloc (.cells (mvCs m (.slice aB nB cB) (.slice aD nD cD)) 35)).cell? ⟨w.heap.size, 4, none⟩ = some (.int .u64 (m.code : Nat)) := n1.cell 4 _ rfl
  obtain ⟨w1, hw1⟩ : ∃ w1, w.alloc (.cells (mvCs m (.slice aB nB cB) (.slice aD nD cD)) 35) = w1 := ⟨_, rfl⟩
  rw [hw1] at b1
  have HB1 := Lib.hid b1
  have HW1 := Lib.hid hw1
  have HOK := Lib.hid ok
  have HB := Lib.hid hB
  have HD := Lib.hid hD
  have HLB := Lib.hid hb
  have HLD := Lib.hid hd
  have hs1 := ok.side
  have hf1 := ok.from_
  have ht1 := ok.to_
  have HC := Lib.hid (digits_any m.code m.code w1 (Nat.le_refl _) (by have := HOK.out.code; simp only [M64] at this; omega))
  have HFS : Hid (fieldR 99 m = dig m.code) := Lib.hid rfl
  obtain ⟨fv, hfv⟩ : ∃ x, dig m.code = x := ⟨_, rfl⟩
  rw [hfv] at HC HFS
  clear b1 n1 hw1 ok hB hD hb hd hfv
  go_enter Tryz.func20, Tryz.ntmps20
  go_wp2_with (fail)
  rw [HW1.out]
  refine HC.out.mono ?_
  rintro e w2 ⟨rfl, b2⟩
  have B2 := Lib.hid (below_on HB1.out b2 HB1.out.size)
  clear b2 c1
  go_wp2_with (fail)
  go_returns
  exact ⟨by rw [HFS.out]; rfl, B2.out⟩
set_option maxRecDepth 100000 in
set_option maxHeartbeats 8000000 in
theorem rfield_98 (m : Mv) (aB : Option Addr) (nB cB : Nat) (aD : Option Addr) (nD cD : Nat) (w : World) (hB : BR w aB nB m.b) (hD : BR w aD nD m.d) (ok : MvOk m) (hb : m.b.length ≤ 4000000) (hd : m.d.length ≤ 4000000) :
    Calls Tryz.prog 20 #[.agg (mvCs m (.slice aB nB cB) (.slice aD nD cD)), .int .u8 98] w fun e w' => e = .returned (.string (tx (fieldR 98 m))) ∧ Below w.heap.size w w' := by
  have b1 : Below w.heap.size w (w.alloc (.cells (mvCs m (.slice aB nB cB) (.slice aD nD cD)) 35)) := (Below.refl _ _).alloc (Nat.le_refl _) _
  have n1 := Blk.new w (mvCs m (.slice aB nB cB) (.slice aD nD cD)) 35
  have c1 : (w.alloc (.cells (mvCs m (.slice aB nB cB) (.slice aD nD cD)) 35)).cell? ⟨w.heap.size, 5, none⟩ = some (.slice aB nB cB) := n1.cell 5 _ rfl
  obtain ⟨w1, hw1⟩ : ∃ w1, w.alloc (.cells (mvCs m (.slice aB nB cB) (.slice aD nD cD)) 35) = w1 := ⟨_, rfl⟩
  rw [hw1] at b1
  have HB1 := Lib.hid b1
  have HW1 := Lib.hid hw1
  have HOK := Lib.hid ok
  have HB := Lib.hid hB
  have HD := Lib.hid hD
  have HLB := Lib.hid hb
  have HLD := Lib.hid hd
  have hs1 := ok.side
  have hf1 := ok.from_
  have ht1 := ok.to_
  have HC := Lib.hid (rhex_any m.b aB nB cB w1 (HB.out.below HB1.out) HLB.out)
  have HFS : Hid (fieldR 98 m = hexS m.b) := Lib.hid rfl
  obtain ⟨fv, hfv⟩ : ∃ x, hexS m.b = x := ⟨_, rfl⟩
  rw [hfv] at HC HFS
  clear b1 n1 hw1 ok hB hD hb hd hfv
  go_enter Tryz.func20, Tryz.ntmps20
  go_wp2_with (fail)
  rw [HW1.out]
  refine HC.out.mono ?_
  rintro e w2 ⟨rfl, b2⟩
  have B2 := Lib.hid (below_on HB1.out b2 HB1.out.size)
  clear b2 c1
  go_wp2_with (fail)
  go_returns
  exact ⟨by rw [HFS.out]; rfl, B2.out⟩
set_option maxRecDepth 100000 in
set_option maxHeartbeats 8000000 in
theorem rfield_102 (m : Mv) (aB : Option Addr) (nB cB : Nat) (aD : Option Addr) (nD cD : Nat) (w : World) (hB : BR w aB nB m.b) (hD : BR w aD nD m.d) (ok : MvOk m) (hb : m.b.length ≤ 4000000) (hd : m.d.length ≤ 4000000) :
    Calls Tryz.prog 20 #[.agg (mvCs m (.slice aB nB cB) (.slice aD nD cD)), .int .u8 102] w fun e w' => e = .returned (.string (tx (fieldR 102 m))) ∧ Below w.heap.size w w' := by
  have b1 : Below w.heap.size w (w.alloc (.cells (mvCs m (.slice aB nB cB) (.slice aD nD cD)) 35)) := (Below.refl _ _).alloc (Nat.le_refl _) _
  have n1 := Blk.new w (mvCs m (.slice aB nB cB) (.slice aD nD cD)) 35
  have c1 : (w.alloc (.cells (mvCs m (.slice aB nB cB) (.slice aD nD cD)) 35)).cell? ⟨w.heap.size, 6, none⟩ = some (.int .u32 (m.from_ : Nat)) := n1.cell 6 _ rfl
  obtain ⟨w1, hw1⟩ : ∃ w1, w.alloc (.cells (mvCs m (.slice aB nB cB) (.slice aD nD cD)) 35) = w1 := ⟨_, rfl⟩
  rw [hw1] at b1
  have HB1 := Lib.hid b1
  have HW1 := Lib.hid hw1
  have HOK := Lib.hid ok
  have HB := Lib.hid hB
  have HD := Lib.hid hD
  have HLB := Lib.hid hb
  have HLD := Lib.hid hd
  have hs1 := ok.side
  have hf1 := ok.from_
  have ht1 := ok.to_
  have HC := Lib.hid (digits_any m.from_ m.from_ w1 (Nat.le_refl _) (by have := HOK.out.from_; omega))
  have HFS : Hid (fieldR 102 m = dig m.from_) := Lib.hid rfl
  obtain ⟨fv, hfv⟩ : ∃ x, dig m.from_ = x := ⟨_, rfl⟩
  rw [hfv] at HC HFS
  clear b1 n1 hw1 ok hB hD hb hd hfv
  go_enter Tryz.func20, Tryz.ntmps20
  go_wp2_with (fail)
  rw [HW1.out]
  refine HC.out.mono ?_
  rintro e w2 ⟨rfl, b2⟩
  have B2 := Lib.hid (below_on HB1.out b2 HB1.out.size)
  clear b2 c1
  go_wp2_with (fail)
  go_returns
  exact ⟨by rw [HFS.out]; rfl, B2.out⟩
set_option maxRecDepth 100000 in
set_option maxHeartbeats 8000000 in
theorem rfield_116 (m : Mv) (aB : Option Addr) (nB cB : Nat) (aD : Option Addr) (nD cD : Nat) (w : World) (hB : BR w aB nB m.b) (hD : BR w aD nD m.d) (ok : MvOk m) (hb : m.b.length ≤ 4000000) (hd : m.d.length ≤ 4000000) :
    Calls Tryz.prog 20 #[.agg (mvCs m (.slice aB nB cB) (.slice aD nD cD)), .int .u8 116] w fun e w' => e = .returned (.string (tx (fieldR 116 m))) ∧ Below w.heap.size w w' := by
  have b1 : Below w.heap.size w (w.alloc (.cells (mvCs m (.slice aB nB cB) (.slice aD nD cD)) 35)) := (Below.refl _ _).alloc (Nat.le_refl _) _
  have n1 := Blk.new w (mvCs m (.slice aB nB cB) (.slice aD nD cD)) 35
  have c1 : (w.alloc (.cells (mvCs m (.slice aB nB cB) (.slice aD nD cD)) 35)).cell? ⟨w.heap.size, 7, none⟩ = some (.int .u32 (m.to_ : Nat)) := n1.cell 7 _ rfl
  obtain ⟨w1, hw1⟩ : ∃ w1, w.alloc (.cells (mvCs m (.slice aB nB cB) (.slice aD nD cD)) 35) = w1 := ⟨_, rfl⟩
  rw [hw1] at b1
  have HB1 := Lib.hid b1
  have HW1 := Lib.hid hw1
  have HOK := Lib.hid ok
  have HB := Lib.hid hB
  have HD := Lib.hid hD
  have HLB := Lib.hid hb
  have HLD := Lib.hid hd
  have hs1 := ok.side
  have hf1 := ok.from_
  have ht1 := ok.to_
  have HC := Lib.hid (digits_any m.to_ m.to_ w1 (Nat.le_refl _) (by have := HOK.out.to_; omega))
  have HFS : Hid (fieldR 116 m = dig m.to_) := Lib.hid rfl
  obtain ⟨fv, hfv⟩ : ∃ x, dig m.to_ = x := ⟨_, rfl⟩
  rw [hfv] at HC HFS
  clear b1 n1 hw1 ok hB hD hb hd hfv
  go_enter Tryz.func20, Tryz.ntmps20
  go_wp2_with (fail)
  rw [HW1.out]
  refine HC.out.mono ?_
  rintro e w2 ⟨rfl, b2⟩
  have B2 := Lib.hid (below_on HB1.out b2 HB1.out.size)
  clear b2 c1
  go_wp2_with (fail)
  go_returns
  exact ⟨by rw [HFS.out]; rfl, B2.out⟩
set_option maxRecDepth 100000 in
set_option maxHeartbeats 8000000 in
theorem rfield_100 (m : Mv) (aB : Option Addr) (nB cB : Nat) (aD : Option Addr) (nD cD : Nat) (w : World) (hB : BR w aB nB m.b) (hD : BR w aD nD m.d) (ok : MvOk m) (hb : m.b.length ≤ 4000000) (hd : m.d.length ≤ 4000000) :
    Calls Tryz.prog 20 #[.agg (mvCs m (.slice aB nB cB) (.slice aD nD cD)), .int .u8 100] w fun e w' => e = .returned (.string (tx (fieldR 100 m))) ∧ Below w.heap.size w w' := by
  have b1 : Below w.heap.size w (w.alloc (.cells (mvCs m (.slice aB nB cB) (.slice aD nD cD)) 35)) := (Below.refl _ _).alloc (Nat.le_refl _) _
  have n1 := Blk.new w (mvCs m (.slice aB nB cB) (.slice aD nD cD)) 35
  have c1 : (w.alloc (.cells (mvCs m (.slice aB nB cB) (.slice aD nD cD)) 35)).cell? ⟨w.heap.size, 8, none⟩ = some (.slice aD nD cD) := n1.cell 8 _ rfl
  obtain ⟨w1, hw1⟩ : ∃ w1, w.alloc (.cells (mvCs m (.slice aB nB cB) (.slice aD nD cD)) 35) = w1 := ⟨_, rfl⟩
  rw [hw1] at b1
  have HB1 := Lib.hid b1
  have HW1 := Lib.hid hw1
  have HOK := Lib.hid ok
  have HB := Lib.hid hB
  have HD := Lib.hid hD
  have HLB := Lib.hid hb
  have HLD := Lib.hid hd
  have hs1 := ok.side
  have hf1 := ok.from_
  have ht1 := ok.to_
  have HC := Lib.hid (rhex_any m.d aD nD cD w1 (HD.out.below HB1.out) HLD.out)
  have HFS : Hid (fieldR 100 m = hexS m.d) := Lib.hid rfl
  obtain ⟨fv, hfv⟩ : ∃ x, hexS m.d = x := ⟨_, rfl⟩
  rw [hfv] at HC HFS
  clear b1 n1 hw1 ok hB hD hb hd hfv
  go_enter Tryz.func20, Tryz.ntmps20
  go_wp2_with (fail)
  rw [HW1.out]
  refine HC.out.mono ?_
  rintro e w2 ⟨rfl, b2⟩
  have B2 := Lib.hid (below_on HB1.out b2 HB1.out.size)
  clear b2 c1
  go_wp2_with (fail)
  go_returns
  exact ⟨by rw [HFS.out]; rfl, B2.out⟩
theorem rfield_any (c : UInt8) (hc : c = 115 ∨ c = 110 ∨ c = 105 ∨ c = 99 ∨ c = 98 ∨ c = 102 ∨ c = 116 ∨ c = 100) (m : Mv) (aB : Option Addr) (nB cB : Nat) (aD : Option Addr) (nD cD : Nat) (w : World) (hB : BR w aB nB m.b) (hD : BR w aD nD m.d) (ok : MvOk m) (hb : m.b.length ≤ 4000000) (hd : m.d.length ≤ 4000000) :
    Calls Tryz.prog 20 #[.agg (mvCs m (.slice aB nB cB) (.slice aD nD cD)), .int .u8 c.toNat] w fun e w' => e = .returned (.string (tx (fieldR c m))) ∧ Below w.heap.size w w' := by
  rcases hc with rfl | rfl | rfl | rfl | rfl | rfl | rfl | rfl
  · exact rfield_115 m aB nB cB aD nD cD w hB hD ok hb hd
  · exact rfield_110 m aB nB cB aD nD cD w hB hD ok hb hd
  · exact rfield_105 m aB nB cB aD nD cD w hB hD ok hb hd
  · exact rfield_99 m aB nB cB aD nD cD w hB hD ok hb hd
  · exact rfield_98 m aB nB cB aD nD cD w hB hD ok hb hd
  · exact rfield_102 m aB nB cB aD nD cD w hB hD ok hb hd
  · exact rfield_116 m aB nB cB aD nD cD w hB hD ok hb hd
  · exact rfield_100 m aB nB cB aD nD cD w hB hD ok hb hd
theorem fieldR_len {c : UInt8} {m : Mv} (ok : MvOk m) (hb : m.b.length ≤ 4000000) (hd : m.d.length ≤ 4000000) : (fieldR c m).length ≤ 9000000 := by
  have h0 : ∀ l : List UInt8, (hexS l).length ≤ 2 * l.length + 1 := fun l => by
    unfold hexS
    split
    · simp
    · rw [hexD_len]; omega
  have hB := h0 m.b
  have hD := h0 m.d
  obtain ⟨h1, h2, h3, h4, h5, h6, h7, h8⟩ := ok
  simp only [M64] at h5 h6
  have d1 := dig_len (n := m.side) (by omega)
  have d2 := dig_len (n := m.id) (by omega)
  have d3 := dig_len (n := m.code) (by omega)
  have d4 := dig_len (n := m.from_) (by omega)
  have d5 := dig_len (n := m.to_) (by omega)
  have d6 : (wholeS m.n).length ≤ 41 := by
    unfold wholeS
    split
    · have := dig_len (n := m.n.natAbs) (by omega); simp; omega
    · have := dig_len (n := m.n.toNat) (by omega); omega
  unfold fieldR
  repeat (first | omega | split)
end Go.Proofs.YthangjgdjhhfgaaGreatDoor
