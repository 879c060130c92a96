/- The document's Tell (written by gen_scv4.py). -/
import Derived.Test.YthangjgdjhhfgaaDoorScV1
import Derived.Test.YthangjgdjhhfgaaDoorScV2
import Derived.Test.YthangjgdjhhfgaaDoorScV3
namespace Go.Proofs.YthangjgdjhhfgaaDoor
open Go.RowKit
set_option linter.unusedVariables false
set_option maxRecDepth 100000 in
set_option maxHeartbeats 8000000 in
theorem rtell_any (is : Bool) (e : Int) (id : Nat) (en : Bool) (code : Nat) (b : List UInt8) (a : Option Addr) (n cap : Nat) (w : World) (h : BR w a n b) (hl : b.length ≤ 1000000) (h0 : -9223372036854775808 ≤ e) (h1 : e ≤ 9223372036854775807) (hi : id ≤ 18446744073709551615) (hc : code ≤ 18446744073709551615) :
    Calls Tryd.prog 11 #[.agg #[.bool is, .int .i64 e, .int .u64 id, .slice a n cap, .bool en, .int .u64 code]] w fun x w' => x = .returned (.string (tx (tellS is e id en code b))) ∧ Below w.heap.size w w' := by
  have HB := Lib.hid h
  have HL := Lib.hid hl
  have H0 := Lib.hid h0
  have H1 := Lib.hid h1
  have HI := Lib.hid hi
  have HC := Lib.hid hc
  have hjl := wholeS_len e h0 h1
  have hjd := dig_len (n := id) (by omega)
  have hjc := dig_len (n := code) (by omega)
  have hjh := hexS_len b
  obtain ⟨R, hR⟩ : ∃ R, tellS is e id en code b = R := ⟨_, rfl⟩
  rw [hR]
  have add : ∀ (x y : List UInt8) W, x.length + y.length ≤ 100000000 → (Op.stringOp .add (tx x) (tx y)).run Tryd.prog W = .ok (.string (tx (x ++ y))) W := fun x y W h => run_add _ _ _ _ (by omega)
  cases is <;> cases en
  · obtain ⟨A1, hA1⟩ : ∃ A, [110, 111, 32] ++ wholeS e = A := ⟨_, rfl⟩
    have lA1 := congrArg List.length hA1
    simp only [List.length_append, List.length_cons, List.length_nil] at lA1
    have s1 : ∀ W, (Op.stringOp .add ⟨#[110, 111, 32]⟩ (tx (wholeS e))).run Tryd.prog W = .ok (.string (tx A1)) W := fun W => by
      rw [← hA1]
      exact add ([110, 111, 32]) (wholeS e) W (by (try simp only [List.length_cons, List.length_nil]); omega)
    obtain ⟨A2, hA2⟩ : ∃ A, A1 ++ [32] = A := ⟨_, rfl⟩
    have lA2 := congrArg List.length hA2
    simp only [List.length_append, List.length_cons, List.length_nil] at lA2
    have s2 : ∀ W, (Op.stringOp .add (tx A1) ⟨#[32]⟩).run Tryd.prog W = .ok (.string (tx A2)) W := fun W => by
      rw [← hA2]
      exact add (A1) ([32]) W (by (try simp only [List.length_cons, List.length_nil]); omega)
    obtain ⟨A3, hA3⟩ : ∃ A, A2 ++ dig id = A := ⟨_, rfl⟩
    have lA3 := congrArg List.length hA3
    simp only [List.length_append] at lA3
    have s3 : ∀ W, (Op.stringOp .add (tx A2) (tx (dig id))).run Tryd.prog W = .ok (.string (tx A3)) W := fun W => by
      rw [← hA3]
      exact add (A2) (dig id) W (by (try simp only [List.length_cons, List.length_nil]); omega)
    obtain ⟨A4, hA4⟩ : ∃ A, A3 ++ [32, 109, 111, 114, 101, 32] = A := ⟨_, rfl⟩
    have lA4 := congrArg List.length hA4
    simp only [List.length_append, List.length_cons, List.length_nil] at lA4
    have s4 : ∀ W, (Op.stringOp .add (tx A3) ⟨#[32, 109, 111, 114, 101, 32]⟩).run Tryd.prog W = .ok (.string (tx A4)) W := fun W => by
      rw [← hA4]
      exact add (A3) ([32, 109, 111, 114, 101, 32]) W (by (try simp only [List.length_cons, List.length_nil]); omega)
    obtain ⟨A5, hA5⟩ : ∃ A, A4 ++ dig code = A := ⟨_, rfl⟩
    have lA5 := congrArg List.length hA5
    simp only [List.length_append] at lA5
    have s5 : ∀ W, (Op.stringOp .add (tx A4) (tx (dig code))).run Tryd.prog W = .ok (.string (tx A5)) W := fun W => by
      rw [← hA5]
      exact add (A4) (dig code) W (by (try simp only [List.length_cons, List.length_nil]); omega)
    obtain ⟨A6, hA6⟩ : ∃ A, A5 ++ [32] = A := ⟨_, rfl⟩
    have lA6 := congrArg List.length hA6
    simp only [List.length_append, List.length_cons, List.length_nil] at lA6
    have s6 : ∀ W, (Op.stringOp .add (tx A5) ⟨#[32]⟩).run Tryd.prog W = .ok (.string (tx A6)) W := fun W => by
      rw [← hA6]
      exact add (A5) ([32]) W (by (try simp only [List.length_cons, List.length_nil]); omega)
    obtain ⟨A7, hA7⟩ : ∃ A, A6 ++ hexS b = A := ⟨_, rfl⟩
    have lA7 := congrArg List.length hA7
    simp only [List.length_append] at lA7
    have s7 : ∀ W, (Op.stringOp .add (tx A6) (tx (hexS b))).run Tryd.prog W = .ok (.string (tx A7)) W := fun W => by
      rw [← hA7]
      exact add (A6) (hexS b) W (by (try simp only [List.length_cons, List.length_nil]); omega)
    have HFIN := Lib.hid (show A7 = R by
      rw [← hR, ← hA7, ← hA6, ← hA5, ← hA4, ← hA3, ← hA2, ← hA1]
      simp [tellS, yesS, endS])
    clear hR hA1 hA2 hA3 hA4 hA5 hA6 hA7 lA1 lA2 lA3 lA4 lA5 lA6 lA7 add hjl hjd hjc hjh h hl h0 h1 hi hc
    go_enter Tryd.func11, Tryd.ntmps11
    go_wp2_with (fail)
    have HBK := Lib.hid (Blk.new w #[.bool false, .int .i64 e, .int .u64 id, .slice a n cap, .bool false, .int .u64 code] 32)
    have HB1 := Lib.hid (show Below w.heap.size w (w.alloc (.cells #[.bool false, .int .i64 e, .int .u64 id, .slice a n cap, .bool false, .int .u64 code] 32)) from (Below.refl _ _).alloc (Nat.le_refl _) _)
    obtain ⟨w1, hw1⟩ : ∃ w1, w.alloc (.cells #[.bool false, .int .i64 e, .int .u64 id, .slice a n cap, .bool false, .int .u64 code] 32) = w1 := ⟨_, rfl⟩
    rw [hw1] at HBK HB1 ⊢
    clear hw1
    have hlt := HBK.out.lt
    have c1 := HBK.out.cell 1 _ rfl
    have c2 := HBK.out.cell 2 _ rfl
    go_wp2_with (fail)
    refine rg_start 11 ?_
    refine rg_below fun p hx hne hC hbel => ?_
    have k1 : ∀ z : Wd p, z.w.cell? ⟨w.heap.size, 1, none⟩ = some (.int .i64 e) := fun z => (hx z _ _ _ hlt).trans c1
    have k2 : ∀ z : Wd p, z.w.cell? ⟨w.heap.size, 2, none⟩ = some (.int .u64 id) := fun z => (hx z _ _ _ hlt).trans c2
    clear hx
    refine rg_quiet 6 [0,1,2,6,7] hC ?_
    simp only [pickD, List.map_cons, List.map_nil, List.getD_cons_zero, List.getD_cons_succ]; repeat (go_big_quiet_step (fail))
    refine wpQuiet_nil ?_
    refine rg_act 3 ?_
    go_wp2_with (fail)
    refine (whole_any e w1.drew H0.out H1.out).mono ?_
    rintro x w2 ⟨rfl, b2⟩
    go_wp2_with (fail)
    refine ⟨hbel _ b2, ?_⟩
    refine rg_quiet 3 [4,5] (hbel _ b2) ?_
    simp only [pickD, List.map_cons, List.map_nil, List.getD_cons_zero, List.getD_cons_succ]; repeat (go_big_quiet_step (fail))
    refine wpQuiet_nil ?_
    refine rg_act 8 ?_
    go_wp2_with (fail)
    refine (digits_any id id w2 (Nat.le_refl _) HI.out).mono ?_
    rintro x w3 ⟨rfl, b3⟩
    have b13 := below_on b2 b3 b2.size
    go_wp2_with (fail)
    refine ⟨hbel _ b13, ?_⟩
    refine rg_quiet 0 [9,10] (hbel _ b13) ?_
    simp only [pickD, List.map_cons, List.map_nil, List.getD_cons_zero, List.getD_cons_succ]; repeat (go_big_quiet_step (fail))
    refine wpQuiet_nil ?_
    refine rg_end ?_
    have B13 := Lib.hid (show Below w1.heap.size w1 w3 from ((Below.refl _ _).drew).trans b13)
    have BK3 := Lib.hid (HBK.out.below B13.out)
    have HB3 := Lib.hid (HB1.out.trans (B13.out.mono HB1.out.size))
    clear hbel hC hne k1 k2 b2 b3 b13 c1 c2 hlt
    have d4 := BK3.out.cell 4 _ rfl
    have d3 := BK3.out.cell 3 _ rfl
    have d5 := BK3.out.cell 5 _ rfl
    have hlt3 := BK3.out.lt
    go_wp2_with (fail)
    refine rg_start 11 ?_
    refine rg_below fun p hx hne hC hbel => ?_
    have k3 : ∀ z : Wd p, z.w.cell? ⟨w.heap.size, 3, none⟩ = some (.slice a n cap) := fun z => (hx z _ _ _ hlt3).trans d3
    have k5 : ∀ z : Wd p, z.w.cell? ⟨w.heap.size, 5, none⟩ = some (.int .u64 code) := fun z => (hx z _ _ _ hlt3).trans d5
    clear hx
    refine rg_quiet 6 [0,1,2,6,7] hC ?_
    simp only [pickD, List.map_cons, List.map_nil, List.getD_cons_zero, List.getD_cons_succ]; repeat (go_big_quiet_step (fail))
    refine wpQuiet_nil ?_
    refine rg_act 3 ?_
    go_wp2_with (fail)
    refine (digits_any code code w3.drew (Nat.le_refl _) HC.out).mono ?_
    rintro x w4 ⟨rfl, b4⟩
    go_wp2_with (fail)
    refine ⟨hbel _ b4, ?_⟩
    refine rg_quiet 3 [4,5] (hbel _ b4) ?_
    simp only [pickD, List.map_cons, List.map_nil, List.getD_cons_zero, List.getD_cons_succ]; repeat (go_big_quiet_step (fail))
    refine wpQuiet_nil ?_
    refine rg_act 8 ?_
    have HB4 := Lib.hid (HB3.out.trans ((((Below.refl w3.heap.size w3).drew).trans b4).mono HB3.out.size))
    have BR4 := Lib.hid (HB.out.below HB4.out)
    go_wp2_with (fail)
    refine (rhex_any b a n cap w4 BR4.out HL.out).mono ?_
    rintro x w5 ⟨rfl, b5⟩
    have b15 := below_on b4 b5 b4.size
    go_wp2_with (fail)
    refine ⟨hbel _ b15, ?_⟩
    refine rg_quiet 0 [9,10] (hbel _ b15) ?_
    simp only [pickD, List.map_cons, List.map_nil, List.getD_cons_zero, List.getD_cons_succ]; repeat (go_big_quiet_step (fail))
    refine wpQuiet_nil ?_
    refine rg_end ?_
    have HB5 := Lib.hid (below_on HB4.out b5 HB4.out.size)
    clear hbel hC hne k3 k5 b4 b5 b15
    go_wp2_with (fail)
    go_returns
    rw [HFIN.out]
    exact ⟨rfl, HB5.out⟩
  · obtain ⟨A1, hA1⟩ : ∃ A, [110, 111, 32] ++ wholeS e = A := ⟨_, rfl⟩
    have lA1 := congrArg List.length hA1
    simp only [List.length_append, List.length_cons, List.length_nil] at lA1
    have s1 : ∀ W, (Op.stringOp .add ⟨#[110, 111, 32]⟩ (tx (wholeS e))).run Tryd.prog W = .ok (.string (tx A1)) W := fun W => by
      rw [← hA1]
      exact add ([110, 111, 32]) (wholeS e) W (by (try simp only [List.length_cons, List.length_nil]); omega)
    obtain ⟨A2, hA2⟩ : ∃ A, A1 ++ [32] = A := ⟨_, rfl⟩
    have lA2 := congrArg List.length hA2
    simp only [List.length_append, List.length_cons, List.length_nil] at lA2
    have s2 : ∀ W, (Op.stringOp .add (tx A1) ⟨#[32]⟩).run Tryd.prog W = .ok (.string (tx A2)) W := fun W => by
      rw [← hA2]
      exact add (A1) ([32]) W (by (try simp only [List.length_cons, List.length_nil]); omega)
    obtain ⟨A3, hA3⟩ : ∃ A, A2 ++ dig id = A := ⟨_, rfl⟩
    have lA3 := congrArg List.length hA3
    simp only [List.length_append] at lA3
    have s3 : ∀ W, (Op.stringOp .add (tx A2) (tx (dig id))).run Tryd.prog W = .ok (.string (tx A3)) W := fun W => by
      rw [← hA3]
      exact add (A2) (dig id) W (by (try simp only [List.length_cons, List.length_nil]); omega)
    obtain ⟨A4, hA4⟩ : ∃ A, A3 ++ [32, 101, 110, 100, 32] = A := ⟨_, rfl⟩
    have lA4 := congrArg List.length hA4
    simp only [List.length_append, List.length_cons, List.length_nil] at lA4
    have s4 : ∀ W, (Op.stringOp .add (tx A3) ⟨#[32, 101, 110, 100, 32]⟩).run Tryd.prog W = .ok (.string (tx A4)) W := fun W => by
      rw [← hA4]
      exact add (A3) ([32, 101, 110, 100, 32]) W (by (try simp only [List.length_cons, List.length_nil]); omega)
    obtain ⟨A5, hA5⟩ : ∃ A, A4 ++ dig code = A := ⟨_, rfl⟩
    have lA5 := congrArg List.length hA5
    simp only [List.length_append] at lA5
    have s5 : ∀ W, (Op.stringOp .add (tx A4) (tx (dig code))).run Tryd.prog W = .ok (.string (tx A5)) W := fun W => by
      rw [← hA5]
      exact add (A4) (dig code) W (by (try simp only [List.length_cons, List.length_nil]); omega)
    obtain ⟨A6, hA6⟩ : ∃ A, A5 ++ [32] = A := ⟨_, rfl⟩
    have lA6 := congrArg List.length hA6
    simp only [List.length_append, List.length_cons, List.length_nil] at lA6
    have s6 : ∀ W, (Op.stringOp .add (tx A5) ⟨#[32]⟩).run Tryd.prog W = .ok (.string (tx A6)) W := fun W => by
      rw [← hA6]
      exact add (A5) ([32]) W (by (try simp only [List.length_cons, List.length_nil]); omega)
    obtain ⟨A7, hA7⟩ : ∃ A, A6 ++ hexS b = A := ⟨_, rfl⟩
    have lA7 := congrArg List.length hA7
    simp only [List.length_append] at lA7
    have s7 : ∀ W, (Op.stringOp .add (tx A6) (tx (hexS b))).run Tryd.prog W = .ok (.string (tx A7)) W := fun W => by
      rw [← hA7]
      exact add (A6) (hexS b) W (by (try simp only [List.length_cons, List.length_nil]); omega)
    have HFIN := Lib.hid (show A7 = R by
      rw [← hR, ← hA7, ← hA6, ← hA5, ← hA4, ← hA3, ← hA2, ← hA1]
      simp [tellS, yesS, endS])
    clear hR hA1 hA2 hA3 hA4 hA5 hA6 hA7 lA1 lA2 lA3 lA4 lA5 lA6 lA7 add hjl hjd hjc hjh h hl h0 h1 hi hc
    go_enter Tryd.func11, Tryd.ntmps11
    go_wp2_with (fail)
    have HBK := Lib.hid (Blk.new w #[.bool false, .int .i64 e, .int .u64 id, .slice a n cap, .bool true, .int .u64 code] 32)
    have HB1 := Lib.hid (show Below w.heap.size w (w.alloc (.cells #[.bool false, .int .i64 e, .int .u64 id, .slice a n cap, .bool true, .int .u64 code] 32)) from (Below.refl _ _).alloc (Nat.le_refl _) _)
    obtain ⟨w1, hw1⟩ : ∃ w1, w.alloc (.cells #[.bool false, .int .i64 e, .int .u64 id, .slice a n cap, .bool true, .int .u64 code] 32) = w1 := ⟨_, rfl⟩
    rw [hw1] at HBK HB1 ⊢
    clear hw1
    have hlt := HBK.out.lt
    have c1 := HBK.out.cell 1 _ rfl
    have c2 := HBK.out.cell 2 _ rfl
    go_wp2_with (fail)
    refine rg_start 11 ?_
    refine rg_below fun p hx hne hC hbel => ?_
    have k1 : ∀ z : Wd p, z.w.cell? ⟨w.heap.size, 1, none⟩ = some (.int .i64 e) := fun z => (hx z _ _ _ hlt).trans c1
    have k2 : ∀ z : Wd p, z.w.cell? ⟨w.heap.size, 2, none⟩ = some (.int .u64 id) := fun z => (hx z _ _ _ hlt).trans c2
    clear hx
    refine rg_quiet 6 [0,1,2,6,7] hC ?_
    simp only [pickD, List.map_cons, List.map_nil, List.getD_cons_zero, List.getD_cons_succ]; repeat (go_big_quiet_step (fail))
    refine wpQuiet_nil ?_
    refine rg_act 3 ?_
    go_wp2_with (fail)
    refine (whole_any e w1.drew H0.out H1.out).mono ?_
    rintro x w2 ⟨rfl, b2⟩
    go_wp2_with (fail)
    refine ⟨hbel _ b2, ?_⟩
    refine rg_quiet 3 [4,5] (hbel _ b2) ?_
    simp only [pickD, List.map_cons, List.map_nil, List.getD_cons_zero, List.getD_cons_succ]; repeat (go_big_quiet_step (fail))
    refine wpQuiet_nil ?_
    refine rg_act 8 ?_
    go_wp2_with (fail)
    refine (digits_any id id w2 (Nat.le_refl _) HI.out).mono ?_
    rintro x w3 ⟨rfl, b3⟩
    have b13 := below_on b2 b3 b2.size
    go_wp2_with (fail)
    refine ⟨hbel _ b13, ?_⟩
    refine rg_quiet 0 [9,10] (hbel _ b13) ?_
    simp only [pickD, List.map_cons, List.map_nil, List.getD_cons_zero, List.getD_cons_succ]; repeat (go_big_quiet_step (fail))
    refine wpQuiet_nil ?_
    refine rg_end ?_
    have B13 := Lib.hid (show Below w1.heap.size w1 w3 from ((Below.refl _ _).drew).trans b13)
    have BK3 := Lib.hid (HBK.out.below B13.out)
    have HB3 := Lib.hid (HB1.out.trans (B13.out.mono HB1.out.size))
    clear hbel hC hne k1 k2 b2 b3 b13 c1 c2 hlt
    have d4 := BK3.out.cell 4 _ rfl
    have d3 := BK3.out.cell 3 _ rfl
    have d5 := BK3.out.cell 5 _ rfl
    have hlt3 := BK3.out.lt
    go_wp2_with (fail)
    refine rg_start 11 ?_
    refine rg_below fun p hx hne hC hbel => ?_
    have k3 : ∀ z : Wd p, z.w.cell? ⟨w.heap.size, 3, none⟩ = some (.slice a n cap) := fun z => (hx z _ _ _ hlt3).trans d3
    have k5 : ∀ z : Wd p, z.w.cell? ⟨w.heap.size, 5, none⟩ = some (.int .u64 code) := fun z => (hx z _ _ _ hlt3).trans d5
    clear hx
    refine rg_quiet 6 [0,1,2,6,7] hC ?_
    simp only [pickD, List.map_cons, List.map_nil, List.getD_cons_zero, List.getD_cons_succ]; repeat (go_big_quiet_step (fail))
    refine wpQuiet_nil ?_
    refine rg_act 3 ?_
    go_wp2_with (fail)
    refine (digits_any code code w3.drew (Nat.le_refl _) HC.out).mono ?_
    rintro x w4 ⟨rfl, b4⟩
    go_wp2_with (fail)
    refine ⟨hbel _ b4, ?_⟩
    refine rg_quiet 3 [4,5] (hbel _ b4) ?_
    simp only [pickD, List.map_cons, List.map_nil, List.getD_cons_zero, List.getD_cons_succ]; repeat (go_big_quiet_step (fail))
    refine wpQuiet_nil ?_
    refine rg_act 8 ?_
    have HB4 := Lib.hid (HB3.out.trans ((((Below.refl w3.heap.size w3).drew).trans b4).mono HB3.out.size))
    have BR4 := Lib.hid (HB.out.below HB4.out)
    go_wp2_with (fail)
    refine (rhex_any b a n cap w4 BR4.out HL.out).mono ?_
    rintro x w5 ⟨rfl, b5⟩
    have b15 := below_on b4 b5 b4.size
    go_wp2_with (fail)
    refine ⟨hbel _ b15, ?_⟩
    refine rg_quiet 0 [9,10] (hbel _ b15) ?_
    simp only [pickD, List.map_cons, List.map_nil, List.getD_cons_zero, List.getD_cons_succ]; repeat (go_big_quiet_step (fail))
    refine wpQuiet_nil ?_
    refine rg_end ?_
    have HB5 := Lib.hid (below_on HB4.out b5 HB4.out.size)
    clear hbel hC hne k3 k5 b4 b5 b15
    go_wp2_with (fail)
    go_returns
    rw [HFIN.out]
    exact ⟨rfl, HB5.out⟩
  · obtain ⟨A1, hA1⟩ : ∃ A, [121, 101, 115, 32] ++ wholeS e = A := ⟨_, rfl⟩
    have lA1 := congrArg List.length hA1
    simp only [List.length_append, List.length_cons, List.length_nil] at lA1
    have s1 : ∀ W, (Op.stringOp .add ⟨#[121, 101, 115, 32]⟩ (tx (wholeS e))).run Tryd.prog W = .ok (.string (tx A1)) W := fun W => by
      rw [← hA1]
      exact add ([121, 101, 115, 32]) (wholeS e) W (by (try simp only [List.length_cons, List.length_nil]); omega)
    obtain ⟨A2, hA2⟩ : ∃ A, A1 ++ [32] = A := ⟨_, rfl⟩
    have lA2 := congrArg List.length hA2
    simp only [List.length_append, List.length_cons, List.length_nil] at lA2
    have s2 : ∀ W, (Op.stringOp .add (tx A1) ⟨#[32]⟩).run Tryd.prog W = .ok (.string (tx A2)) W := fun W => by
      rw [← hA2]
      exact add (A1) ([32]) W (by (try simp only [List.length_cons, List.length_nil]); omega)
    obtain ⟨A3, hA3⟩ : ∃ A, A2 ++ dig id = A := ⟨_, rfl⟩
    have lA3 := congrArg List.length hA3
    simp only [List.length_append] at lA3
    have s3 : ∀ W, (Op.stringOp .add (tx A2) (tx (dig id))).run Tryd.prog W = .ok (.string (tx A3)) W := fun W => by
      rw [← hA3]
      exact add (A2) (dig id) W (by (try simp only [List.length_cons, List.length_nil]); omega)
    obtain ⟨A4, hA4⟩ : ∃ A, A3 ++ [32, 109, 111, 114, 101, 32] = A := ⟨_, rfl⟩
    have lA4 := congrArg List.length hA4
    simp only [List.length_append, List.length_cons, List.length_nil] at lA4
    have s4 : ∀ W, (Op.stringOp .add (tx A3) ⟨#[32, 109, 111, 114, 101, 32]⟩).run Tryd.prog W = .ok (.string (tx A4)) W := fun W => by
      rw [← hA4]
      exact add (A3) ([32, 109, 111, 114, 101, 32]) W (by (try simp only [List.length_cons, List.length_nil]); omega)
    obtain ⟨A5, hA5⟩ : ∃ A, A4 ++ dig code = A := ⟨_, rfl⟩
    have lA5 := congrArg List.length hA5
    simp only [List.length_append] at lA5
    have s5 : ∀ W, (Op.stringOp .add (tx A4) (tx (dig code))).run Tryd.prog W = .ok (.string (tx A5)) W := fun W => by
      rw [← hA5]
      exact add (A4) (dig code) W (by (try simp only [List.length_cons, List.length_nil]); omega)
    obtain ⟨A6, hA6⟩ : ∃ A, A5 ++ [32] = A := ⟨_, rfl⟩
    have lA6 := congrArg List.length hA6
    simp only [List.length_append, List.length_cons, List.length_nil] at lA6
    have s6 : ∀ W, (Op.stringOp .add (tx A5) ⟨#[32]⟩).run Tryd.prog W = .ok (.string (tx A6)) W := fun W => by
      rw [← hA6]
      exact add (A5) ([32]) W (by (try simp only [List.length_cons, List.length_nil]); omega)
    obtain ⟨A7, hA7⟩ : ∃ A, A6 ++ hexS b = A := ⟨_, rfl⟩
    have lA7 := congrArg List.length hA7
    simp only [List.length_append] at lA7
    have s7 : ∀ W, (Op.stringOp .add (tx A6) (tx (hexS b))).run Tryd.prog W = .ok (.string (tx A7)) W := fun W => by
      rw [← hA7]
      exact add (A6) (hexS b) W (by (try simp only [List.length_cons, List.length_nil]); omega)
    have HFIN := Lib.hid (show A7 = R by
      rw [← hR, ← hA7, ← hA6, ← hA5, ← hA4, ← hA3, ← hA2, ← hA1]
      simp [tellS, yesS, endS])
    clear hR hA1 hA2 hA3 hA4 hA5 hA6 hA7 lA1 lA2 lA3 lA4 lA5 lA6 lA7 add hjl hjd hjc hjh h hl h0 h1 hi hc
    go_enter Tryd.func11, Tryd.ntmps11
    go_wp2_with (fail)
    have HBK := Lib.hid (Blk.new w #[.bool true, .int .i64 e, .int .u64 id, .slice a n cap, .bool false, .int .u64 code] 32)
    have HB1 := Lib.hid (show Below w.heap.size w (w.alloc (.cells #[.bool true, .int .i64 e, .int .u64 id, .slice a n cap, .bool false, .int .u64 code] 32)) from (Below.refl _ _).alloc (Nat.le_refl _) _)
    obtain ⟨w1, hw1⟩ : ∃ w1, w.alloc (.cells #[.bool true, .int .i64 e, .int .u64 id, .slice a n cap, .bool false, .int .u64 code] 32) = w1 := ⟨_, rfl⟩
    rw [hw1] at HBK HB1 ⊢
    clear hw1
    have hlt := HBK.out.lt
    have c1 := HBK.out.cell 1 _ rfl
    have c2 := HBK.out.cell 2 _ rfl
    go_wp2_with (fail)
    refine rg_start 11 ?_
    refine rg_below fun p hx hne hC hbel => ?_
    have k1 : ∀ z : Wd p, z.w.cell? ⟨w.heap.size, 1, none⟩ = some (.int .i64 e) := fun z => (hx z _ _ _ hlt).trans c1
    have k2 : ∀ z : Wd p, z.w.cell? ⟨w.heap.size, 2, none⟩ = some (.int .u64 id) := fun z => (hx z _ _ _ hlt).trans c2
    clear hx
    refine rg_quiet 6 [0,1,2,6,7] hC ?_
    simp only [pickD, List.map_cons, List.map_nil, List.getD_cons_zero, List.getD_cons_succ]; repeat (go_big_quiet_step (fail))
    refine wpQuiet_nil ?_
    refine rg_act 3 ?_
    go_wp2_with (fail)
    refine (whole_any e w1.drew H0.out H1.out).mono ?_
    rintro x w2 ⟨rfl, b2⟩
    go_wp2_with (fail)
    refine ⟨hbel _ b2, ?_⟩
    refine rg_quiet 3 [4,5] (hbel _ b2) ?_
    simp only [pickD, List.map_cons, List.map_nil, List.getD_cons_zero, List.getD_cons_succ]; repeat (go_big_quiet_step (fail))
    refine wpQuiet_nil ?_
    refine rg_act 8 ?_
    go_wp2_with (fail)
    refine (digits_any id id w2 (Nat.le_refl _) HI.out).mono ?_
    rintro x w3 ⟨rfl, b3⟩
    have b13 := below_on b2 b3 b2.size
    go_wp2_with (fail)
    refine ⟨hbel _ b13, ?_⟩
    refine rg_quiet 0 [9,10] (hbel _ b13) ?_
    simp only [pickD, List.map_cons, List.map_nil, List.getD_cons_zero, List.getD_cons_succ]; repeat (go_big_quiet_step (fail))
    refine wpQuiet_nil ?_
    refine rg_end ?_
    have B13 := Lib.hid (show Below w1.heap.size w1 w3 from ((Below.refl _ _).drew).trans b13)
    have BK3 := Lib.hid (HBK.out.below B13.out)
    have HB3 := Lib.hid (HB1.out.trans (B13.out.mono HB1.out.size))
    clear hbel hC hne k1 k2 b2 b3 b13 c1 c2 hlt
    have d4 := BK3.out.cell 4 _ rfl
    have d3 := BK3.out.cell 3 _ rfl
    have d5 := BK3.out.cell 5 _ rfl
    have hlt3 := BK3.out.lt
    go_wp2_with (fail)
    refine rg_start 11 ?_
    refine rg_below fun p hx hne hC hbel => ?_
    have k3 : ∀ z : Wd p, z.w.cell? ⟨w.heap.size, 3, none⟩ = some (.slice a n cap) := fun z => (hx z _ _ _ hlt3).trans d3
    have k5 : ∀ z : Wd p, z.w.cell? ⟨w.heap.size, 5, none⟩ = some (.int .u64 code) := fun z => (hx z _ _ _ hlt3).trans d5
    clear hx
    refine rg_quiet 6 [0,1,2,6,7] hC ?_
    simp only [pickD, List.map_cons, List.map_nil, List.getD_cons_zero, List.getD_cons_succ]; repeat (go_big_quiet_step (fail))
    refine wpQuiet_nil ?_
    refine rg_act 3 ?_
    go_wp2_with (fail)
    refine (digits_any code code w3.drew (Nat.le_refl _) HC.out).mono ?_
    rintro x w4 ⟨rfl, b4⟩
    go_wp2_with (fail)
    refine ⟨hbel _ b4, ?_⟩
    refine rg_quiet 3 [4,5] (hbel _ b4) ?_
    simp only [pickD, List.map_cons, List.map_nil, List.getD_cons_zero, List.getD_cons_succ]; repeat (go_big_quiet_step (fail))
    refine wpQuiet_nil ?_
    refine rg_act 8 ?_
    have HB4 := Lib.hid (HB3.out.trans ((((Below.refl w3.heap.size w3).drew).trans b4).mono HB3.out.size))
    have BR4 := Lib.hid (HB.out.below HB4.out)
    go_wp2_with (fail)
    refine (rhex_any b a n cap w4 BR4.out HL.out).mono ?_
    rintro x w5 ⟨rfl, b5⟩
    have b15 := below_on b4 b5 b4.size
    go_wp2_with (fail)
    refine ⟨hbel _ b15, ?_⟩
    refine rg_quiet 0 [9,10] (hbel _ b15) ?_
    simp only [pickD, List.map_cons, List.map_nil, List.getD_cons_zero, List.getD_cons_succ]; repeat (go_big_quiet_step (fail))
    refine wpQuiet_nil ?_
    refine rg_end ?_
    have HB5 := Lib.hid (below_on HB4.out b5 HB4.out.size)
    clear hbel hC hne k3 k5 b4 b5 b15
    go_wp2_with (fail)
    go_returns
    rw [HFIN.out]
    exact ⟨rfl, HB5.out⟩
  · obtain ⟨A1, hA1⟩ : ∃ A, [121, 101, 115, 32] ++ wholeS e = A := ⟨_, rfl⟩
    have lA1 := congrArg List.length hA1
    simp only [List.length_append, List.length_cons, List.length_nil] at lA1
    have s1 : ∀ W, (Op.stringOp .add ⟨#[121, 101, 115, 32]⟩ (tx (wholeS e))).run Tryd.prog W = .ok (.string (tx A1)) W := fun W => by
      rw [← hA1]
      exact add ([121, 101, 115, 32]) (wholeS e) W (by (try simp only [List.length_cons, List.length_nil]); omega)
    obtain ⟨A2, hA2⟩ : ∃ A, A1 ++ [32] = A := ⟨_, rfl⟩
    have lA2 := congrArg List.length hA2
    simp only [List.length_append, List.length_cons, List.length_nil] at lA2
    have s2 : ∀ W, (Op.stringOp .add (tx A1) ⟨#[32]⟩).run Tryd.prog W = .ok (.string (tx A2)) W := fun W => by
      rw [← hA2]
      exact add (A1) ([32]) W (by (try simp only [List.length_cons, List.length_nil]); omega)
    obtain ⟨A3, hA3⟩ : ∃ A, A2 ++ dig id = A := ⟨_, rfl⟩
    have lA3 := congrArg List.length hA3
    simp only [List.length_append] at lA3
    have s3 : ∀ W, (Op.stringOp .add (tx A2) (tx (dig id))).run Tryd.prog W = .ok (.string (tx A3)) W := fun W => by
      rw [← hA3]
      exact add (A2) (dig id) W (by (try simp only [List.length_cons, List.length_nil]); omega)
    obtain ⟨A4, hA4⟩ : ∃ A, A3 ++ [32, 101, 110, 100, 32] = A := ⟨_, rfl⟩
    have lA4 := congrArg List.length hA4
    simp only [List.length_append, List.length_cons, List.length_nil] at lA4
    have s4 : ∀ W, (Op.stringOp .add (tx A3) ⟨#[32, 101, 110, 100, 32]⟩).run Tryd.prog W = .ok (.string (tx A4)) W := fun W => by
      rw [← hA4]
      exact add (A3) ([32, 101, 110, 100, 32]) W (by (try simp only [List.length_cons, List.length_nil]); omega)
    obtain ⟨A5, hA5⟩ : ∃ A, A4 ++ dig code = A := ⟨_, rfl⟩
    have lA5 := congrArg List.length hA5
    simp only [List.length_append] at lA5
    have s5 : ∀ W, (Op.stringOp .add (tx A4) (tx (dig code))).run Tryd.prog W = .ok (.string (tx A5)) W := fun W => by
      rw [← hA5]
      exact add (A4) (dig code) W (by (try simp only [List.length_cons, List.length_nil]); omega)
    obtain ⟨A6, hA6⟩ : ∃ A, A5 ++ [32] = A := ⟨_, rfl⟩
    have lA6 := congrArg List.length hA6
    simp only [List.length_append, List.length_cons, List.length_nil] at lA6
    have s6 : ∀ W, (Op.stringOp .add (tx A5) ⟨#[32]⟩).run Tryd.prog W = .ok (.string (tx A6)) W := fun W => by
      rw [← hA6]
      exact add (A5) ([32]) W (by (try simp only [List.length_cons, List.length_nil]); omega)
    obtain ⟨A7, hA7⟩ : ∃ A, A6 ++ hexS b = A := ⟨_, rfl⟩
    have lA7 := congrArg List.length hA7
    simp only [List.length_append] at lA7
    have s7 : ∀ W, (Op.stringOp .add (tx A6) (tx (hexS b))).run Tryd.prog W = .ok (.string (tx A7)) W := fun W => by
      rw [← hA7]
      exact add (A6) (hexS b) W (by (try simp only [List.length_cons, List.length_nil]); omega)
    have HFIN := Lib.hid (show A7 = R by
      rw [← hR, ← hA7, ← hA6, ← hA5, ← hA4, ← hA3, ← hA2, ← hA1]
      simp [tellS, yesS, endS])
    clear hR hA1 hA2 hA3 hA4 hA5 hA6 hA7 lA1 lA2 lA3 lA4 lA5 lA6 lA7 add hjl hjd hjc hjh h hl h0 h1 hi hc
    go_enter Tryd.func11, Tryd.ntmps11
    go_wp2_with (fail)
    have HBK := Lib.hid (Blk.new w #[.bool true, .int .i64 e, .int .u64 id, .slice a n cap, .bool true, .int .u64 code] 32)
    have HB1 := Lib.hid (show Below w.heap.size w (w.alloc (.cells #[.bool true, .int .i64 e, .int .u64 id, .slice a n cap, .bool true, .int .u64 code] 32)) from (Below.refl _ _).alloc (Nat.le_refl _) _)
    obtain ⟨w1, hw1⟩ : ∃ w1, w.alloc (.cells #[.bool true, .int .i64 e, .int .u64 id, .slice a n cap, .bool true, .int .u64 code] 32) = w1 := ⟨_, rfl⟩
    rw [hw1] at HBK HB1 ⊢
    clear hw1
    have hlt := HBK.out.lt
    have c1 := HBK.out.cell 1 _ rfl
    have c2 := HBK.out.cell 2 _ rfl
    go_wp2_with (fail)
    refine rg_start 11 ?_
    refine rg_below fun p hx hne hC hbel => ?_
    have k1 : ∀ z : Wd p, z.w.cell? ⟨w.heap.size, 1, none⟩ = some (.int .i64 e) := fun z => (hx z _ _ _ hlt).trans c1
    have k2 : ∀ z : Wd p, z.w.cell? ⟨w.heap.size, 2, none⟩ = some (.int .u64 id) := fun z => (hx z _ _ _ hlt).trans c2
    clear hx
    refine rg_quiet 6 [0,1,2,6,7] hC ?_
    simp only [pickD, List.map_cons, List.map_nil, List.getD_cons_zero, List.getD_cons_succ]; repeat (go_big_quiet_step (fail))
    refine wpQuiet_nil ?_
    refine rg_act 3 ?_
    go_wp2_with (fail)
    refine (whole_any e w1.drew H0.out H1.out).mono ?_
    rintro x w2 ⟨rfl, b2⟩
    go_wp2_with (fail)
    refine ⟨hbel _ b2, ?_⟩
    refine rg_quiet 3 [4,5] (hbel _ b2) ?_
    simp only [pickD, List.map_cons, List.map_nil, List.getD_cons_zero, List.getD_cons_succ]; repeat (go_big_quiet_step (fail))
    refine wpQuiet_nil ?_
    refine rg_act 8 ?_
    go_wp2_with (fail)
    refine (digits_any id id w2 (Nat.le_refl _) HI.out).mono ?_
    rintro x w3 ⟨rfl, b3⟩
    have b13 := below_on b2 b3 b2.size
    go_wp2_with (fail)
    refine ⟨hbel _ b13, ?_⟩
    refine rg_quiet 0 [9,10] (hbel _ b13) ?_
    simp only [pickD, List.map_cons, List.map_nil, List.getD_cons_zero, List.getD_cons_succ]; repeat (go_big_quiet_step (fail))
    refine wpQuiet_nil ?_
    refine rg_end ?_
    have B13 := Lib.hid (show Below w1.heap.size w1 w3 from ((Below.refl _ _).drew).trans b13)
    have BK3 := Lib.hid (HBK.out.below B13.out)
    have HB3 := Lib.hid (HB1.out.trans (B13.out.mono HB1.out.size))
    clear hbel hC hne k1 k2 b2 b3 b13 c1 c2 hlt
    have d4 := BK3.out.cell 4 _ rfl
    have d3 := BK3.out.cell 3 _ rfl
    have d5 := BK3.out.cell 5 _ rfl
    have hlt3 := BK3.out.lt
    go_wp2_with (fail)
    refine rg_start 11 ?_
    refine rg_below fun p hx hne hC hbel => ?_
    have k3 : ∀ z : Wd p, z.w.cell? ⟨w.heap.size, 3, none⟩ = some (.slice a n cap) := fun z => (hx z _ _ _ hlt3).trans d3
    have k5 : ∀ z : Wd p, z.w.cell? ⟨w.heap.size, 5, none⟩ = some (.int .u64 code) := fun z => (hx z _ _ _ hlt3).trans d5
    clear hx
    refine rg_quiet 6 [0,1,2,6,7] hC ?_
    simp only [pickD, List.map_cons, List.map_nil, List.getD_cons_zero, List.getD_cons_succ]; repeat (go_big_quiet_step (fail))
    refine wpQuiet_nil ?_
    refine rg_act 3 ?_
    go_wp2_with (fail)
    refine (digits_any code code w3.drew (Nat.le_refl _) HC.out).mono ?_
    rintro x w4 ⟨rfl, b4⟩
    go_wp2_with (fail)
    refine ⟨hbel _ b4, ?_⟩
    refine rg_quiet 3 [4,5] (hbel _ b4) ?_
    simp only [pickD, List.map_cons, List.map_nil, List.getD_cons_zero, List.getD_cons_succ]; repeat (go_big_quiet_step (fail))
    refine wpQuiet_nil ?_
    refine rg_act 8 ?_
    have HB4 := Lib.hid (HB3.out.trans ((((Below.refl w3.heap.size w3).drew).trans b4).mono HB3.out.size))
    have BR4 := Lib.hid (HB.out.below HB4.out)
    go_wp2_with (fail)
    refine (rhex_any b a n cap w4 BR4.out HL.out).mono ?_
    rintro x w5 ⟨rfl, b5⟩
    have b15 := below_on b4 b5 b4.size
    go_wp2_with (fail)
    refine ⟨hbel _ b15, ?_⟩
    refine rg_quiet 0 [9,10] (hbel _ b15) ?_
    simp only [pickD, List.map_cons, List.map_nil, List.getD_cons_zero, List.getD_cons_succ]; repeat (go_big_quiet_step (fail))
    refine wpQuiet_nil ?_
    refine rg_end ?_
    have HB5 := Lib.hid (below_on HB4.out b5 HB4.out.size)
    clear hbel hC hne k3 k5 b4 b5 b15
    go_wp2_with (fail)
    go_returns
    rw [HFIN.out]
    exact ⟨rfl, HB5.out⟩
end Go.Proofs.YthangjgdjhhfgaaDoor
