/- A stream's parts, where nothing came: Put of no bytes. -/
import Derived.Test.YtgpnfdeneagdbaaGreatCo12
namespace Go.Proofs.YtgpnfdeneagdbaaGreat
open Go.RowKit
set_option linter.unusedVariables false
set_option maxRecDepth 100000 in
set_option maxHeartbeats 4000000 in
theorem gaps_nil (q : Nat) (x : Strm) (w : World) (h : SdAt w q x) : Calls Tryz.prog 107 #[.pointer (some ⟨q, 14, none⟩), .int .u64 0, .slice none 0 0] w fun e w' => Below w.heap.size w w' ∧ e = .returned (.slice none 0 0) := by
  have c16 : w.cell? ⟨q, 16, none⟩ = some (.slice none 0 0) := h.cell 16 _ rfl
  have lq := Blk.lt h
  have H := Lib.hid h
  clear h
  go_enter Tryz.func107, Tryz.ntmps107
  go_upto_region 3 with (fail)
  have z1 : (w.alloc (.cells #[.pointer (some ⟨q, 14, none⟩)] 134)).heap.size = w.heap.size + 1 := alloc_size' _ _
  have z2 : ((w.alloc (.cells #[.pointer (some ⟨q, 14, none⟩)] 134)).alloc (.cells #[.int .u64 0] 23)).heap.size = w.heap.size + 1 + 1 := by rw [alloc_size', z1]
  have z3 : (((w.alloc (.cells #[.pointer (some ⟨q, 14, none⟩)] 134)).alloc (.cells #[.int .u64 0] 23)).alloc (.cells #[.slice none 0 0] 22)).heap.size = w.heap.size + 1 + 1 + 1 := by rw [alloc_size', z2]
  have z4 : ((((w.alloc (.cells #[.pointer (some ⟨q, 14, none⟩)] 134)).alloc (.cells #[.int .u64 0] 23)).alloc (.cells #[.slice none 0 0] 22)).alloc (.cells #[.slice none 0 0] 64)).heap.size = w.heap.size + 1 + 1 + 1 + 1 := by rw [alloc_size', z3]
  have b1 : Below w.heap.size w ((((w.alloc (.cells #[.pointer (some ⟨q, 14, none⟩)] 134)).alloc (.cells #[.int .u64 0] 23)).alloc (.cells #[.slice none 0 0] 22)).alloc (.cells #[.slice none 0 0] 64)) := ((((Below.refl _ _).alloc (Nat.le_refl _) _).alloc (by omega) _).alloc (by omega) _).alloc (by omega) _
  have x0 : Blk ((((w.alloc (.cells #[.pointer (some ⟨q, 14, none⟩)] 134)).alloc (.cells #[.int .u64 0] 23)).alloc (.cells #[.slice none 0 0] 22)).alloc (.cells #[.slice none 0 0] 64)) w.heap.size #[.pointer (some ⟨q, 14, none⟩)] 134 := (((Blk.new w _ _).alloc _).alloc _).alloc _
  have x1 : Blk ((((w.alloc (.cells #[.pointer (some ⟨q, 14, none⟩)] 134)).alloc (.cells #[.int .u64 0] 23)).alloc (.cells #[.slice none 0 0] 22)).alloc (.cells #[.slice none 0 0] 64)) (w.heap.size + 1) #[.int .u64 0] 23 := by have := Blk.new (w.alloc (.cells #[.pointer (some ⟨q, 14, none⟩)] 134)) #[.int .u64 0] 23; rw [z1] at this; exact (this.alloc _).alloc _
  have x2 : Blk ((((w.alloc (.cells #[.pointer (some ⟨q, 14, none⟩)] 134)).alloc (.cells #[.int .u64 0] 23)).alloc (.cells #[.slice none 0 0] 22)).alloc (.cells #[.slice none 0 0] 64)) (w.heap.size + 1 + 1) #[.slice none 0 0] 22 := by have := Blk.new ((w.alloc (.cells #[.pointer (some ⟨q, 14, none⟩)] 134)).alloc (.cells #[.int .u64 0] 23)) #[.slice none 0 0] 22; rw [z2] at this; exact this.alloc _
  have x3 : Blk ((((w.alloc (.cells #[.pointer (some ⟨q, 14, none⟩)] 134)).alloc (.cells #[.int .u64 0] 23)).alloc (.cells #[.slice none 0 0] 22)).alloc (.cells #[.slice none 0 0] 64)) (w.heap.size + 1 + 1 + 1) #[.slice none 0 0] 64 := by have := Blk.new (((w.alloc (.cells #[.pointer (some ⟨q, 14, none⟩)] 134)).alloc (.cells #[.int .u64 0] 23)).alloc (.cells #[.slice none 0 0] 22)) #[.slice none 0 0] 64; rw [z3] at this; exact this
  generalize ((((w.alloc (.cells #[.pointer (some ⟨q, 14, none⟩)] 134)).alloc (.cells #[.int .u64 0] 23)).alloc (.cells #[.slice none 0 0] 22)).alloc (.cells #[.slice none 0 0] 64)) = w1 at b1 x0 x1 x2 x3 z4 ⊢
  clear z1 z2 z3
  have d0 := x0.cell 0 _ rfl
  have d1 := x1.cell 0 _ rfl
  have d2 := x2.cell 0 _ rfl
  have d3 := x3.cell 0 _ rfl
  have c16' := (b1.cell (p := ⟨q, 16, none⟩) lq).trans c16
  have H1 := Lib.hid (show SdAt w1 q x from H.out.below b1)
  have B1 := Lib.hid b1
  have X3 := Lib.hid x3
  clear x0 x1 x2 b1 c16 x3
  refine rg_start 8 ?_
  refine rg_same fun p hx hne hC => ?_
  refine rg_quiet 0 [0,1,2,3,4,5,6,7] hC ?_
  simp only [pickD, List.map_cons, List.map_nil, List.getD_cons_zero, List.getD_cons_succ]; repeat (go_big_quiet_step (fail))
  refine wpQuiet_nil ?_
  refine rg_end ?_
  clear hx hne hC
  go_wp2_with (fail)
  refine wp_loop_rounds 1 ?_
  rw [rounds_succ]
  go_wp2_with (fail)
  refine (gaps1_nil q (w.heap.size + 1) w.heap.size (w.heap.size + 1 + 1 + 1) (w.heap.size + 1 + 1) x w1.drew H1.out d1 d0 (by show w.heap.size + 1 < w1.heap.size ∧ w.heap.size < w1.heap.size; omega)).mono ?_
  rintro e w2 ⟨hb2, rfl⟩
  have d3' := (X3.out.drew.below hb2).cell 0 _ rfl
  have B2 := Lib.hid (below_on B1.out (Below.trans (Below.refl w1.heap.size w1).drew hb2) B1.out.size)
  clear hb2 d0 d1 d2 d3
  go_wp2_with (fail)
  go_returns
  exact ⟨B2.out, rfl⟩
set_option maxRecDepth 100000 in
set_option maxHeartbeats 4000000 in
theorem put_nil (q : Nat) (x : Strm) (w : World) (h : SdAt w q x) : Calls Tryz.prog 80 #[.pointer (some ⟨q, 14, none⟩), .int .u64 0, .slice none 0 0, .bool false] w fun e w' => e = .returned (.tuple #[.int .u64 0, .int .i64 0]) ∧ Only (· = q) w w' ∧ SdAt w' q x := by
  have HM := Lib.hid (may_nil q x w h)
  have HC := Lib.hid (comes_nil q x w h)
  have H := Lib.hid h
  clear h
  go_enter Tryz.func80, Tryz.ntmps80
  go_wp2_with (fail)
  refine HM.out.mono ?_
  rintro e w1 ⟨e1, rfl⟩
  obtain rfl : w = w1 := e1.symm
  go_wp2_with (fail)
  refine HC.out.mono ?_
  rintro e w1 ⟨rfl, on1, h1⟩
  have c21 : w1.cell? ⟨q, 21, none⟩ = some (.bool false) := h1.cell 21 _ rfl
  have c22 : w1.cell? ⟨q, 22, none⟩ = some (.bool false) := h1.cell 22 _ rfl
  have c24 : w1.cell? ⟨q, 24, none⟩ = some (.bool false) := h1.cell 24 _ rfl
  have c16 : w1.cell? ⟨q, 16, none⟩ = some (.slice none 0 0) := h1.cell 16 _ rfl
  have lq := Blk.lt h1
  have H1 := Lib.hid h1
  have ON1 := Lib.hid on1
  clear h1 on1
  go_wp2_with (fail)
  refine rg_start 15 ?_
  refine rg_below fun p hx hne hC hbel => ?_
  have k16 : ∀ z : Wd p, z.w.cell? ⟨q, 16, none⟩ = some (.slice none 0 0) := fun z => (hx z _ _ _ lq).trans c16
  refine rg_quiet 6 [0,1,2,3,4,5,6,7,8] hC ?_
  simp only [pickD, List.map_cons, List.map_nil, List.getD_cons_zero, List.getD_cons_succ]; repeat (go_big_quiet_step (fail))
  refine wpQuiet_nil ?_
  refine rg_act 9 ?_
  go_wp2_with (fail)
  refine (gaps_nil q x w1.drew H1.out).mono ?_
  rintro e w2 ⟨hb2, rfl⟩
  go_wp2_with (fail)
  refine ⟨hbel _ hb2, ?_⟩
  refine rg_act 10 ?_
  go_wp2_with (fail)
  refine (join_nil w2).mono ?_
  rintro e w3 ⟨rfl, hb3⟩
  have hb3' : Below w1.drew.heap.size w1.drew w3 := below_on hb2 hb3 hb2.size
  have hC3 := hbel _ hb3'
  have h3 : SdAt w3 q x := Blk.below (w := w1.drew) H1.out hb3'
  have c3 : w3.cell? ⟨q, 16, none⟩ = some (.slice none 0 0) := h3.cell 16 _ rfl
  have f3 := h3.free 16
  have H3 := Lib.hid h3
  have B3 := Lib.hid hb3'
  clear hb2 hb3 hb3' h3
  go_wp2_with (fail)
  refine ⟨hC3, ?_⟩
  refine rg_quiet 1 [11,12,13] hC3 ?_
  simp only [pickD, List.map_cons, List.map_nil, List.getD_cons_zero, List.getD_cons_succ]; repeat (go_big_quiet_step (fail))
  refine wpQuiet_nil ?_
  refine rg_cut 14 ?_
  go_wp2_with (fail)
  refine rg_end0 ?_
  clear hx hne hC hC3 hbel k16
  have h4 : SdAt (w3.setCell ⟨q, 16, none⟩ (.slice none 0 0)) q x := sd_put H3.out 16 _ rfl
  have o4 : Only (· = q) w (w3.setCell ⟨q, 16, none⟩ (.slice none 0 0)) := ON1.out.trans (((Only.refl _ _).drew.trans (only_of_below B3.out _)).set _ _)
  generalize (w3.setCell ⟨q, 16, none⟩ (.slice none 0 0)) = w4 at h4 o4 ⊢
  have c4 : w4.cell? ⟨q, 16, none⟩ = some (.slice none 0 0) := h4.cell 16 _ rfl
  have lq4 := Blk.lt h4
  have H4 := Lib.hid h4
  have O4 := Lib.hid o4
  clear h4 o4 c16 c21 c22 c24 c3 f3 lq
  go_wp2_with (fail)
  refine rg_start 20 ?_
  refine rg_below fun p hx hne hC hbel => ?_
  have k16 : ∀ z : Wd p, z.w.cell? ⟨q, 16, none⟩ = some (.slice none 0 0) := fun z => (hx z _ _ _ lq4).trans c4
  refine rg_quiet 3 [0,1,2,3,4,5,6,7,8,9,10,11,12,13,14,15,16] hC ?_
  simp only [pickD, List.map_cons, List.map_nil, List.getD_cons_zero, List.getD_cons_succ]; repeat (go_big_quiet_step (fail))
  refine wpQuiet_nil ?_
  refine rg_act 17 ?_
  go_wp2_with (fail)
  refine ⟨hbel _ (Below.refl _ _), ?_⟩
  refine rg_quiet 0 [18,19] hC ?_
  simp only [pickD, List.map_cons, List.map_nil, List.getD_cons_zero, List.getD_cons_succ]; repeat (go_big_quiet_step (fail))
  refine wpQuiet_nil ?_
  refine rg_end ?_
  clear hx hne hC hbel k16
  go_wp2_with (fail)
  go_returns
  exact ⟨rfl, O4.out.drew, H4.out⟩
end Go.Proofs.YtgpnfdeneagdbaaGreat
