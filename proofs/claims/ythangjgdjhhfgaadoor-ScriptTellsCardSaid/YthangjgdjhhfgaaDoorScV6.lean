/- ScriptTells: the law; its argument; what the row lays. -/
import Derived.Test.YthangjgdjhhfgaaDoorScV4
import Derived.Test.YthangjgdjhhfgaaDoorScV5
import Derived.Test.YthangjgdjhhfgaaDoorArgs
import Derived.Test.YthangjgdjhhfgaaDoorScHd
namespace Go.Proofs.YthangjgdjhhfgaaDoor
open Go.RowKit
set_option linter.unusedVariables false
set_option maxRecDepth 100000 in
set_option maxHeartbeats 8000000 in
theorem tells_law (is : Bool) (e : Int) (id : Nat) (en : Bool) (code : Nat) (b : List UInt8) (a : Option Addr) (n cap : Nat) (w : World) (h : BR w a n b) (h0 : -9223372036854775808 ≤ e) (h1 : e ≤ 9223372036854775807) (hi : id ≤ 18446744073709551615) (hc : code ≤ 18446744073709551615) (hn : n ≤ maxLen) (hV : Vars w) :
    Calls Tryd.prog 4 #[.agg #[.bool is, .int .i64 e, .int .u64 id, .slice a n cap, .bool en, .int .u64 code]] w fun x w' => x = .returned (.bool true) ∧ Below w.heap.size w w' := by
  have HB := Lib.hid h
  have HV := Lib.hid hV
  have H0 := Lib.hid h0
  have H1 := Lib.hid h1
  have HI := Lib.hid hi
  have HC := Lib.hid hc
  simp only [maxLen] at hn
  clear h hV h0 h1 hi hc
  go_enter Tryd.func4, Tryd.ntmps4
  go_wp2_with (fail)
  have HBK := Lib.hid (Blk.new w #[.bool is, .int .i64 e, .int .u64 id, .slice a n cap, .bool en, .int .u64 code] 32)
  have HB1 := Lib.hid (show Below w.heap.size w (w.alloc (.cells #[.bool is, .int .i64 e, .int .u64 id, .slice a n cap, .bool en, .int .u64 code] 32)) from (Below.refl _ _).alloc (Nat.le_refl _) _)
  obtain ⟨w1, hw1⟩ : ∃ w1, w.alloc (.cells #[.bool is, .int .i64 e, .int .u64 id, .slice a n cap, .bool en, .int .u64 code] 32) = w1 := ⟨_, rfl⟩
  rw [hw1] at HBK HB1 ⊢
  clear hw1
  refine (known_any w1 (HV.out.below HB1.out)).mono ?_
  rintro x w2 ⟨rfl, b2⟩
  have HBK2 := Lib.hid (HBK.out.below b2)
  have HB2 := Lib.hid (below_on HB1.out b2 HB1.out.size)
  clear b2
  have hlt := HBK2.out.lt
  have c0 := HBK2.out.cell 0 _ rfl
  have c1 := HBK2.out.cell 1 _ rfl
  have c2 := HBK2.out.cell 2 _ rfl
  have c3 := HBK2.out.cell 3 _ rfl
  have c4 := HBK2.out.cell 4 _ rfl
  have c5 := HBK2.out.cell 5 _ rfl
  by_cases hbig : 5000 < n
  · have hbig' : (5000 : Int) < (n : Int) := by omega
    go_wp2_with (fail)
    refine rg_start 12 ?_
    refine rg_below fun p hx hne hC hbel => ?_
    have k3 : ∀ z : Wd p, z.w.cell? ⟨w.heap.size, 3, none⟩ = some (.slice a n cap) := fun z => (hx z _ _ _ hlt).trans c3
    clear hx
    refine rg_quiet 5 [0,1,2,3,4,5,7] hC ?_
    simp only [pickD, List.map_cons, List.map_nil, List.getD_cons_zero, List.getD_cons_succ]; repeat (go_big_quiet_step (fail))
    refine wpQuiet_nil ?_
    refine rg_act 6 ?_
    go_wp2_with (fail)
    refine ⟨hC, ?_⟩
    refine rg_cut 8 ?_
    go_wp2_with (fail)
    clear k3 hne hC hbel
    refine rg_below fun p hx hne hC hbel => ?_
    refine rg_quiet 0 [9,10,11] hC ?_
    simp only [pickD, List.map_cons, List.map_nil, List.getD_cons_zero, List.getD_cons_succ]; repeat (go_big_quiet_step (fail))
    refine wpQuiet_nil ?_
    refine rg_end ?_
    clear hx hne hC hbel
    go_wp2_with (fail)
    go_returns
    exact ⟨rfl, HB2.out.drew⟩
  · have hbi : decide ((5000 : Int) < (n : Int)) = false := by simp; omega
    have HL := Lib.hid (show b.length ≤ 1000000 by have := HB.out.len; omega)
    go_wp2_with (fail)
    refine rg_start 12 ?_
    refine rg_below fun p hx hne hC hbel => ?_
    have k0 : ∀ z : Wd p, z.w.cell? ⟨w.heap.size, 0, none⟩ = some (.bool is) := fun z => (hx z _ _ _ hlt).trans c0
    have k1 : ∀ z : Wd p, z.w.cell? ⟨w.heap.size, 1, none⟩ = some (.int .i64 e) := fun z => (hx z _ _ _ hlt).trans c1
    have k2 : ∀ z : Wd p, z.w.cell? ⟨w.heap.size, 2, none⟩ = some (.int .u64 id) := fun z => (hx z _ _ _ hlt).trans c2
    have k3 : ∀ z : Wd p, z.w.cell? ⟨w.heap.size, 3, none⟩ = some (.slice a n cap) := fun z => (hx z _ _ _ hlt).trans c3
    have k4 : ∀ z : Wd p, z.w.cell? ⟨w.heap.size, 4, none⟩ = some (.bool en) := fun z => (hx z _ _ _ hlt).trans c4
    have k5 : ∀ z : Wd p, z.w.cell? ⟨w.heap.size, 5, none⟩ = some (.int .u64 code) := fun z => (hx z _ _ _ hlt).trans c5
    clear hx
    refine rg_quiet 5 [0,1,2,3,4,5,7] hC ?_
    simp only [pickD, List.map_cons, List.map_nil, List.getD_cons_zero, List.getD_cons_succ]; repeat (go_big_quiet_step (fail))
    refine wpQuiet_nil ?_
    refine rg_act 6 ?_
    have HB3 := Lib.hid (HB2.out.drew)
    have HBR3 := Lib.hid (HB.out.below HB3.out)
    go_wp2_with (fail)
    refine (tell_any is e id en code b a n cap w2.drew HBR3.out HL.out H0.out H1.out HI.out HC.out (HV.out.below HB3.out)).mono ?_
    rintro x w3 ⟨rfl, b3⟩
    have HB4 := Lib.hid (below_on HB3.out b3 HB3.out.size)
    have HBR4 := Lib.hid (HB.out.below HB4.out)
    go_wp2_with (fail)
    refine ⟨hbel _ b3, ?_⟩
    refine rg_cut 8 ?_
    go_wp2_with (fail)
    refine (rtell_any is e id en code b a n cap w3 HBR4.out HL.out H0.out H1.out HI.out HC.out).mono ?_
    rintro x w4 ⟨rfl, b4⟩
    have HB5 := Lib.hid (below_on HB4.out b4 HB4.out.size)
    clear hbel hC hne k0 k1 k2 k3 k4 k5 b3 b4
    go_wp2_with (fail)
    refine rg_below fun p hx hne hC hbel => ?_
    refine rg_quiet 0 [9,10,11] hC ?_
    simp only [pickD, List.map_cons, List.map_nil, List.getD_cons_zero, List.getD_cons_succ]; repeat (go_big_quiet_step (fail))
    refine wpQuiet_nil ?_
    refine rg_end ?_
    clear hx hne hC hbel
    go_wp2_with (fail)
    go_returns
    exact ⟨rfl, HB5.out⟩
end Go.Proofs.YthangjgdjhhfgaaDoor
