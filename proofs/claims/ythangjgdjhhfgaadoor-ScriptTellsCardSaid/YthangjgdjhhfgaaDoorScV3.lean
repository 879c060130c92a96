/- script.Tell. -/
import Derived.Test.YthangjgdjhhfgaaDoorScW9
namespace Go.Proofs.YthangjgdjhhfgaaDoor
open Go.RowKit
set_option linter.unusedVariables false
def yesS (b : Bool) : List UInt8 := if b then [121, 101, 115] else [110, 111]
def endS (b : Bool) : List UInt8 := if b then [101, 110, 100] else [109, 111, 114, 101]
def tellS (is : Bool) (e : Int) (id : Nat) (en : Bool) (code : Nat) (b : List UInt8) : List UInt8 := yesS is ++ (32 :: (wholeS e ++ (32 :: (dig id ++ (32 :: (endS en ++ (32 :: (dig code ++ (32 :: hexS b)))))))))
theorem join6_any (bk : Nat) (T : TypeId) (a b c d e f : List UInt8) (w : World) (hb : Blk w bk #[.string (tx a), .string (tx b), .string (tx c), .string (tx d), .string (tx e), .string (tx f)] T) (hl : a.length + b.length + c.length + d.length + e.length + f.length ≤ 100000000) :
    Calls Tryd.prog 23 #[.slice (some ⟨bk, 0, none⟩) 6 6, .string (tx [32])] w fun x w' => x = .returned (.string (tx (a ++ (32 :: (b ++ (32 :: (c ++ (32 :: (d ++ (32 :: (e ++ (32 :: f)))))))))))) ∧ Below w.heap.size w w' := by
  have hj : Lib.join ([tx a, tx b, tx c, tx d, tx e, tx f].map (·.data.toList)) (tx [32]).data.toList = a ++ (32 :: (b ++ (32 :: (c ++ (32 :: (d ++ (32 :: (e ++ (32 :: f))))))))) := by
    simp [Lib.join]
  refine (Any.strings_Join L.lays156 L.Builder_Extra_156 bk 0 6 [tx a, tx b, tx c, tx d, tx e, tx f] (tx [32]) w (fun j x hj => ?_) hb.lt (by simp) (by simp) (by rw [hj]; simp; omega)).mono ?_
  · rw [Nat.zero_add]
    refine hb.cell j _ ?_
    match j, hj with
    | 0, hj | 1, hj | 2, hj | 3, hj | 4, hj | 5, hj => simp at hj; subst hj; rfl
    | j + 6, hj => simp at hj
  · rintro x w' ⟨rfl, h⟩
    rw [hj]
    exact ⟨rfl, h⟩
theorem hexS_len (l : List UInt8) : (hexS l).length ≤ 2 * l.length + 1 := by
  unfold hexS
  split
  · simp
  · rw [hexD_len]; omega
theorem wholeS_len (n : Int) (h0 : -9223372036854775808 ≤ n) (h1 : n ≤ 9223372036854775807) : (wholeS n).length ≤ 41 := by
  unfold wholeS
  split
  · have := dig_len (n := n.natAbs) (by omega); simp; omega
  · have := dig_len (n := n.toNat) (by omega); omega
set_option maxRecDepth 100000 in
set_option maxHeartbeats 8000000 in
theorem tell_any (is : Bool) (e : Int) (id : Nat) (en : Bool) (code : Nat) (b : List UInt8) (a : Option Addr) (n cap : Nat) (w : World) (h : BR w a n b) (hl : b.length ≤ 1000000) (h0 : -9223372036854775808 ≤ e) (h1 : e ≤ 9223372036854775807) (hi : id ≤ 18446744073709551615) (hc : code ≤ 18446744073709551615) (hV : Vars w) :
    Calls Tryd.prog 10 #[.agg #[.bool is, .int .i64 e, .int .u64 id, .slice a n cap, .bool en, .int .u64 code]] w fun x w' => x = .returned (.string (tx (tellS is e id en code b))) ∧ Below w.heap.size w w' := by
  obtain ⟨yS, hyS⟩ : ∃ x, yesS is = x := ⟨_, rfl⟩
  obtain ⟨eS, heS⟩ : ∃ x, endS en = x := ⟨_, rfl⟩
  have HY := Lib.hid hyS
  have HE := Lib.hid heS
  have HB := Lib.hid h
  have HL := Lib.hid hl
  have HV := Lib.hid hV
  have H0 := Lib.hid h0
  have H1 := Lib.hid h1
  have HI := Lib.hid hi
  have HC := Lib.hid hc
  obtain ⟨R, hR⟩ : ∃ R, tellS is e id en code b = R := ⟨_, rfl⟩
  rw [hR]
  have HR := Lib.hid hR
  clear hyS heS h hl hV h0 h1 hi hc hR
  go_enter Tryd.func10, Tryd.ntmps10
  cases is <;> cases en
  · go_wp2_with (fail)
    have HBK := Lib.hid (Blk.new w #[.bool false, .int .i64 e, .int .u64 id, .slice a n cap, .bool false, .int .u64 code] 32)
    have HB1 := Lib.hid (show Below w.heap.size w (w.alloc (.cells #[.bool false, .int .i64 e, .int .u64 id, .slice a n cap, .bool false, .int .u64 code] 32)) from (Below.refl _ _).alloc (Nat.le_refl _) _)
    obtain ⟨w1, hw1⟩ : ∃ w1, w.alloc (.cells #[.bool false, .int .i64 e, .int .u64 id, .slice a n cap, .bool false, .int .u64 code] 32) = w1 := ⟨_, rfl⟩
    rw [hw1] at HBK HB1 ⊢
    clear hw1
    have HV1 := Lib.hid (HV.out.below HB1.out)
    have hlt := HBK.out.lt
    have c1 := HBK.out.cell 1 _ rfl
    have c2 := HBK.out.cell 2 _ rfl
    have c3 := HBK.out.cell 3 _ rfl
    have c5 := HBK.out.cell 5 _ rfl
    go_wp2_with (fail)
    refine rg_start 17 ?_
    refine rg_below fun p hx hne hC hbel => ?_
    have k1 : ∀ z : Wd p, z.w.cell? ⟨w.heap.size, 1, none⟩ = some (.int .i64 e) := fun z => (hx z _ _ _ hlt).trans c1
    have k2 : ∀ z : Wd p, z.w.cell? ⟨w.heap.size, 2, none⟩ = some (.int .u64 id) := fun z => (hx z _ _ _ hlt).trans c2
    have k3 : ∀ z : Wd p, z.w.cell? ⟨w.heap.size, 3, none⟩ = some (.slice a n cap) := fun z => (hx z _ _ _ hlt).trans c3
    have k5 : ∀ z : Wd p, z.w.cell? ⟨w.heap.size, 5, none⟩ = some (.int .u64 code) := fun z => (hx z _ _ _ hlt).trans c5
    clear hx
    refine rg_quiet 7 [0,1,2,4,5,7,8,9,11,12] hC ?_
    simp only [pickD, List.map_cons, List.map_nil, List.getD_cons_zero, List.getD_cons_succ]; repeat (go_big_quiet_step (fail))
    refine wpQuiet_nil ?_
    refine rg_act 3 ?_
    go_wp2_with (fail)
    have HB2 := Lib.hid ((Below.refl w1.heap.size w1).drew)
    have HV2 := Lib.hid (HV1.out.below HB2.out)
    refine (itoa_any e w1.drew H0.out H1.out HV2.out.pow).mono ?_
    rintro x w2 ⟨rfl, b2⟩
    go_wp2_with (fail)
    refine ⟨hbel _ b2, ?_⟩
    refine rg_act 6 ?_
    have HV3 := Lib.hid (HV2.out.below b2)
    go_wp2_with (fail)
    refine (num_any id w2 HI.out HV3.out.pow).mono ?_
    rintro x w3 ⟨rfl, b3⟩
    have b13 := below_on b2 b3 b2.size
    go_wp2_with (fail)
    refine ⟨hbel _ b13, ?_⟩
    refine rg_act 10 ?_
    have HV4 := Lib.hid (HV3.out.below b3)
    go_wp2_with (fail)
    refine (num_any code w3 HC.out HV4.out.pow).mono ?_
    rintro x w4 ⟨rfl, b4⟩
    have b14 := below_on b13 b4 b13.size
    go_wp2_with (fail)
    refine ⟨hbel _ b14, ?_⟩
    refine rg_act 13 ?_
    have HB14 := Lib.hid (show Below w.heap.size w w4 from (HB1.out.trans (HB2.out.mono HB1.out.size)).trans (b14.mono HB1.out.size))
    have HBR := Lib.hid (HB.out.below HB14.out)
    go_wp2_with (fail)
    refine (hex_any b a n cap w4 HBR.out (Nat.le_trans HL.out (by decide))).mono ?_
    rintro x w5 ⟨rfl, b5⟩
    have b15 := below_on b14 b5 b14.size
    have HB15 := Lib.hid (below_on HB14.out b5 HB14.out.size)
    go_wp2_with (fail)
    refine ⟨hbel _ b15, ?_⟩
    refine rg_cut 14 ?_
    go_wp2_with (fail)
    refine rg_do 15 ?_
    go_wp2_with (fail)
    have hjl := wholeS_len e H0.out H1.out
    have hjd := dig_len (n := id) (by have := HI.out; omega)
    have hjc := dig_len (n := code) (by have := HC.out; omega)
    have hjh := hexS_len b
    have hjb := HL.out
    refine (join6_any w5.heap.size 9 [110, 111] (wholeS e) (dig id) [109, 111, 114, 101] (dig code) (hexS b) _ (Blk.new w5 _ _) (by simp only [List.length_cons, List.length_nil]; omega)).mono ?_
    rintro x w6 ⟨rfl, b6⟩
    have HB6 := Lib.hid (below_on (HB15.out.alloc HB15.out.size (.cells #[.string ⟨#[110, 111]⟩, .string (tx (wholeS e)), .string (tx (dig id)), .string ⟨#[109, 111, 114, 101]⟩, .string (tx (dig code)), .string (tx (hexS b))] 9)) b6 (by have := HB15.out.size; simp; omega))
    have HR2 := Lib.hid (show [110, 111] ++ (32 :: (wholeS e ++ (32 :: (dig id ++ (32 :: ([109, 111, 114, 101] ++ (32 :: (dig code ++ (32 :: hexS b))))))))) = R from HR.out)
    rw [HR2.out]
    clear b6 hjl hjd hjc hjh hjb hbel hC hne k1 k2 k3 k5
    go_wp2_with (fail)
    refine rg_below fun p hx hne hC hbel => ?_
    refine rg_quiet 0 [16] hC ?_
    simp only [pickD, List.map_cons, List.map_nil, List.getD_cons_zero, List.getD_cons_succ]; repeat (go_big_quiet_step (fail))
    refine wpQuiet_nil ?_
    refine rg_end ?_
    clear hx hne hC hbel
    go_wp2_with (fail)
    go_returns
    exact ⟨rfl, HB6.out⟩
  · go_wp2_with (fail)
    have HBK := Lib.hid (Blk.new w #[.bool false, .int .i64 e, .int .u64 id, .slice a n cap, .bool true, .int .u64 code] 32)
    have HB1 := Lib.hid (show Below w.heap.size w (w.alloc (.cells #[.bool false, .int .i64 e, .int .u64 id, .slice a n cap, .bool true, .int .u64 code] 32)) from (Below.refl _ _).alloc (Nat.le_refl _) _)
    obtain ⟨w1, hw1⟩ : ∃ w1, w.alloc (.cells #[.bool false, .int .i64 e, .int .u64 id, .slice a n cap, .bool true, .int .u64 code] 32) = w1 := ⟨_, rfl⟩
    rw [hw1] at HBK HB1 ⊢
    clear hw1
    have HV1 := Lib.hid (HV.out.below HB1.out)
    have hlt := HBK.out.lt
    have c1 := HBK.out.cell 1 _ rfl
    have c2 := HBK.out.cell 2 _ rfl
    have c3 := HBK.out.cell 3 _ rfl
    have c5 := HBK.out.cell 5 _ rfl
    go_wp2_with (fail)
    refine rg_start 17 ?_
    refine rg_below fun p hx hne hC hbel => ?_
    have k1 : ∀ z : Wd p, z.w.cell? ⟨w.heap.size, 1, none⟩ = some (.int .i64 e) := fun z => (hx z _ _ _ hlt).trans c1
    have k2 : ∀ z : Wd p, z.w.cell? ⟨w.heap.size, 2, none⟩ = some (.int .u64 id) := fun z => (hx z _ _ _ hlt).trans c2
    have k3 : ∀ z : Wd p, z.w.cell? ⟨w.heap.size, 3, none⟩ = some (.slice a n cap) := fun z => (hx z _ _ _ hlt).trans c3
    have k5 : ∀ z : Wd p, z.w.cell? ⟨w.heap.size, 5, none⟩ = some (.int .u64 code) := fun z => (hx z _ _ _ hlt).trans c5
    clear hx
    refine rg_quiet 7 [0,1,2,4,5,7,8,9,11,12] hC ?_
    simp only [pickD, List.map_cons, List.map_nil, List.getD_cons_zero, List.getD_cons_succ]; repeat (go_big_quiet_step (fail))
    refine wpQuiet_nil ?_
    refine rg_act 3 ?_
    go_wp2_with (fail)
    have HB2 := Lib.hid ((Below.refl w1.heap.size w1).drew)
    have HV2 := Lib.hid (HV1.out.below HB2.out)
    refine (itoa_any e w1.drew H0.out H1.out HV2.out.pow).mono ?_
    rintro x w2 ⟨rfl, b2⟩
    go_wp2_with (fail)
    refine ⟨hbel _ b2, ?_⟩
    refine rg_act 6 ?_
    have HV3 := Lib.hid (HV2.out.below b2)
    go_wp2_with (fail)
    refine (num_any id w2 HI.out HV3.out.pow).mono ?_
    rintro x w3 ⟨rfl, b3⟩
    have b13 := below_on b2 b3 b2.size
    go_wp2_with (fail)
    refine ⟨hbel _ b13, ?_⟩
    refine rg_act 10 ?_
    have HV4 := Lib.hid (HV3.out.below b3)
    go_wp2_with (fail)
    refine (num_any code w3 HC.out HV4.out.pow).mono ?_
    rintro x w4 ⟨rfl, b4⟩
    have b14 := below_on b13 b4 b13.size
    go_wp2_with (fail)
    refine ⟨hbel _ b14, ?_⟩
    refine rg_act 13 ?_
    have HB14 := Lib.hid (show Below w.heap.size w w4 from (HB1.out.trans (HB2.out.mono HB1.out.size)).trans (b14.mono HB1.out.size))
    have HBR := Lib.hid (HB.out.below HB14.out)
    go_wp2_with (fail)
    refine (hex_any b a n cap w4 HBR.out (Nat.le_trans HL.out (by decide))).mono ?_
    rintro x w5 ⟨rfl, b5⟩
    have b15 := below_on b14 b5 b14.size
    have HB15 := Lib.hid (below_on HB14.out b5 HB14.out.size)
    go_wp2_with (fail)
    refine ⟨hbel _ b15, ?_⟩
    refine rg_cut 14 ?_
    go_wp2_with (fail)
    refine rg_do 15 ?_
    go_wp2_with (fail)
    have hjl := wholeS_len e H0.out H1.out
    have hjd := dig_len (n := id) (by have := HI.out; omega)
    have hjc := dig_len (n := code) (by have := HC.out; omega)
    have hjh := hexS_len b
    have hjb := HL.out
    refine (join6_any w5.heap.size 9 [110, 111] (wholeS e) (dig id) [101, 110, 100] (dig code) (hexS b) _ (Blk.new w5 _ _) (by simp only [List.length_cons, List.length_nil]; omega)).mono ?_
    rintro x w6 ⟨rfl, b6⟩
    have HB6 := Lib.hid (below_on (HB15.out.alloc HB15.out.size (.cells #[.string ⟨#[110, 111]⟩, .string (tx (wholeS e)), .string (tx (dig id)), .string ⟨#[101, 110, 100]⟩, .string (tx (dig code)), .string (tx (hexS b))] 9)) b6 (by have := HB15.out.size; simp; omega))
    have HR2 := Lib.hid (show [110, 111] ++ (32 :: (wholeS e ++ (32 :: (dig id ++ (32 :: ([101, 110, 100] ++ (32 :: (dig code ++ (32 :: hexS b))))))))) = R from HR.out)
    rw [HR2.out]
    clear b6 hjl hjd hjc hjh hjb hbel hC hne k1 k2 k3 k5
    go_wp2_with (fail)
    refine rg_below fun p hx hne hC hbel => ?_
    refine rg_quiet 0 [16] hC ?_
    simp only [pickD, List.map_cons, List.map_nil, List.getD_cons_zero, List.getD_cons_succ]; repeat (go_big_quiet_step (fail))
    refine wpQuiet_nil ?_
    refine rg_end ?_
    clear hx hne hC hbel
    go_wp2_with (fail)
    go_returns
    exact ⟨rfl, HB6.out⟩
  · go_wp2_with (fail)
    have HBK := Lib.hid (Blk.new w #[.bool true, .int .i64 e, .int .u64 id, .slice a n cap, .bool false, .int .u64 code] 32)
    have HB1 := Lib.hid (show Below w.heap.size w (w.alloc (.cells #[.bool true, .int .i64 e, .int .u64 id, .slice a n cap, .bool false, .int .u64 code] 32)) from (Below.refl _ _).alloc (Nat.le_refl _) _)
    obtain ⟨w1, hw1⟩ : ∃ w1, w.alloc (.cells #[.bool true, .int .i64 e, .int .u64 id, .slice a n cap, .bool false, .int .u64 code] 32) = w1 := ⟨_, rfl⟩
    rw [hw1] at HBK HB1 ⊢
    clear hw1
    have HV1 := Lib.hid (HV.out.below HB1.out)
    have hlt := HBK.out.lt
    have c1 := HBK.out.cell 1 _ rfl
    have c2 := HBK.out.cell 2 _ rfl
    have c3 := HBK.out.cell 3 _ rfl
    have c5 := HBK.out.cell 5 _ rfl
    go_wp2_with (fail)
    refine rg_start 17 ?_
    refine rg_below fun p hx hne hC hbel => ?_
    have k1 : ∀ z : Wd p, z.w.cell? ⟨w.heap.size, 1, none⟩ = some (.int .i64 e) := fun z => (hx z _ _ _ hlt).trans c1
    have k2 : ∀ z : Wd p, z.w.cell? ⟨w.heap.size, 2, none⟩ = some (.int .u64 id) := fun z => (hx z _ _ _ hlt).trans c2
    have k3 : ∀ z : Wd p, z.w.cell? ⟨w.heap.size, 3, none⟩ = some (.slice a n cap) := fun z => (hx z _ _ _ hlt).trans c3
    have k5 : ∀ z : Wd p, z.w.cell? ⟨w.heap.size, 5, none⟩ = some (.int .u64 code) := fun z => (hx z _ _ _ hlt).trans c5
    clear hx
    refine rg_quiet 7 [0,1,2,4,5,7,8,9,11,12] hC ?_
    simp only [pickD, List.map_cons, List.map_nil, List.getD_cons_zero, List.getD_cons_succ]; repeat (go_big_quiet_step (fail))
    refine wpQuiet_nil ?_
    refine rg_act 3 ?_
    go_wp2_with (fail)
    have HB2 := Lib.hid ((Below.refl w1.heap.size w1).drew)
    have HV2 := Lib.hid (HV1.out.below HB2.out)
    refine (itoa_any e w1.drew H0.out H1.out HV2.out.pow).mono ?_
    rintro x w2 ⟨rfl, b2⟩
    go_wp2_with (fail)
    refine ⟨hbel _ b2, ?_⟩
    refine rg_act 6 ?_
    have HV3 := Lib.hid (HV2.out.below b2)
    go_wp2_with (fail)
    refine (num_any id w2 HI.out HV3.out.pow).mono ?_
    rintro x w3 ⟨rfl, b3⟩
    have b13 := below_on b2 b3 b2.size
    go_wp2_with (fail)
    refine ⟨hbel _ b13, ?_⟩
    refine rg_act 10 ?_
    have HV4 := Lib.hid (HV3.out.below b3)
    go_wp2_with (fail)
    refine (num_any code w3 HC.out HV4.out.pow).mono ?_
    rintro x w4 ⟨rfl, b4⟩
    have b14 := below_on b13 b4 b13.size
    go_wp2_with (fail)
    refine ⟨hbel _ b14, ?_⟩
    refine rg_act 13 ?_
    have HB14 := Lib.hid (show Below w.heap.size w w4 from (HB1.out.trans (HB2.out.mono HB1.out.size)).trans (b14.mono HB1.out.size))
    have HBR := Lib.hid (HB.out.below HB14.out)
    go_wp2_with (fail)
    refine (hex_any b a n cap w4 HBR.out (Nat.le_trans HL.out (by decide))).mono ?_
    rintro x w5 ⟨rfl, b5⟩
    have b15 := below_on b14 b5 b14.size
    have HB15 := Lib.hid (below_on HB14.out b5 HB14.out.size)
    go_wp2_with (fail)
    refine ⟨hbel _ b15, ?_⟩
    refine rg_cut 14 ?_
    go_wp2_with (fail)
    refine rg_do 15 ?_
    go_wp2_with (fail)
    have hjl := wholeS_len e H0.out H1.out
    have hjd := dig_len (n := id) (by have := HI.out; omega)
    have hjc := dig_len (n := code) (by have := HC.out; omega)
    have hjh := hexS_len b
    have hjb := HL.out
    refine (join6_any w5.heap.size 9 [121, 101, 115] (wholeS e) (dig id) [109, 111, 114, 101] (dig code) (hexS b) _ (Blk.new w5 _ _) (by simp only [List.length_cons, List.length_nil]; omega)).mono ?_
    rintro x w6 ⟨rfl, b6⟩
    have HB6 := Lib.hid (below_on (HB15.out.alloc HB15.out.size (.cells #[.string ⟨#[121, 101, 115]⟩, .string (tx (wholeS e)), .string (tx (dig id)), .string ⟨#[109, 111, 114, 101]⟩, .string (tx (dig code)), .string (tx (hexS b))] 9)) b6 (by have := HB15.out.size; simp; omega))
    have HR2 := Lib.hid (show [121, 101, 115] ++ (32 :: (wholeS e ++ (32 :: (dig id ++ (32 :: ([109, 111, 114, 101] ++ (32 :: (dig code ++ (32 :: hexS b))))))))) = R from HR.out)
    rw [HR2.out]
    clear b6 hjl hjd hjc hjh hjb hbel hC hne k1 k2 k3 k5
    go_wp2_with (fail)
    refine rg_below fun p hx hne hC hbel => ?_
    refine rg_quiet 0 [16] hC ?_
    simp only [pickD, List.map_cons, List.map_nil, List.getD_cons_zero, List.getD_cons_succ]; repeat (go_big_quiet_step (fail))
    refine wpQuiet_nil ?_
    refine rg_end ?_
    clear hx hne hC hbel
    go_wp2_with (fail)
    go_returns
    exact ⟨rfl, HB6.out⟩
  · go_wp2_with (fail)
    have HBK := Lib.hid (Blk.new w #[.bool true, .int .i64 e, .int .u64 id, .slice a n cap, .bool true, .int .u64 code] 32)
    have HB1 := Lib.hid (show Below w.heap.size w (w.alloc (.cells #[.bool true, .int .i64 e, .int .u64 id, .slice a n cap, .bool true, .int .u64 code] 32)) from (Below.refl _ _).alloc (Nat.le_refl _) _)
    obtain ⟨w1, hw1⟩ : ∃ w1, w.alloc (.cells #[.bool true, .int .i64 e, .int .u64 id, .slice a n cap, .bool true, .int .u64 code] 32) = w1 := ⟨_, rfl⟩
    rw [hw1] at HBK HB1 ⊢
    clear hw1
    have HV1 := Lib.hid (HV.out.below HB1.out)
    have hlt := HBK.out.lt
    have c1 := HBK.out.cell 1 _ rfl
    have c2 := HBK.out.cell 2 _ rfl
    have c3 := HBK.out.cell 3 _ rfl
    have c5 := HBK.out.cell 5 _ rfl
    go_wp2_with (fail)
    refine rg_start 17 ?_
    refine rg_below fun p hx hne hC hbel => ?_
    have k1 : ∀ z : Wd p, z.w.cell? ⟨w.heap.size, 1, none⟩ = some (.int .i64 e) := fun z => (hx z _ _ _ hlt).trans c1
    have k2 : ∀ z : Wd p, z.w.cell? ⟨w.heap.size, 2, none⟩ = some (.int .u64 id) := fun z => (hx z _ _ _ hlt).trans c2
    have k3 : ∀ z : Wd p, z.w.cell? ⟨w.heap.size, 3, none⟩ = some (.slice a n cap) := fun z => (hx z _ _ _ hlt).trans c3
    have k5 : ∀ z : Wd p, z.w.cell? ⟨w.heap.size, 5, none⟩ = some (.int .u64 code) := fun z => (hx z _ _ _ hlt).trans c5
    clear hx
    refine rg_quiet 7 [0,1,2,4,5,7,8,9,11,12] hC ?_
    simp only [pickD, List.map_cons, List.map_nil, List.getD_cons_zero, List.getD_cons_succ]; repeat (go_big_quiet_step (fail))
    refine wpQuiet_nil ?_
    refine rg_act 3 ?_
    go_wp2_with (fail)
    have HB2 := Lib.hid ((Below.refl w1.heap.size w1).drew)
    have HV2 := Lib.hid (HV1.out.below HB2.out)
    refine (itoa_any e w1.drew H0.out H1.out HV2.out.pow).mono ?_
    rintro x w2 ⟨rfl, b2⟩
    go_wp2_with (fail)
    refine ⟨hbel _ b2, ?_⟩
    refine rg_act 6 ?_
    have HV3 := Lib.hid (HV2.out.below b2)
    go_wp2_with (fail)
    refine (num_any id w2 HI.out HV3.out.pow).mono ?_
    rintro x w3 ⟨rfl, b3⟩
    have b13 := below_on b2 b3 b2.size
    go_wp2_with (fail)
    refine ⟨hbel _ b13, ?_⟩
    refine rg_act 10 ?_
    have HV4 := Lib.hid (HV3.out.below b3)
    go_wp2_with (fail)
    refine (num_any code w3 HC.out HV4.out.pow).mono ?_
    rintro x w4 ⟨rfl, b4⟩
    have b14 := below_on b13 b4 b13.size
    go_wp2_with (fail)
    refine ⟨hbel _ b14, ?_⟩
    refine rg_act 13 ?_
    have HB14 := Lib.hid (show Below w.heap.size w w4 from (HB1.out.trans (HB2.out.mono HB1.out.size)).trans (b14.mono HB1.out.size))
    have HBR := Lib.hid (HB.out.below HB14.out)
    go_wp2_with (fail)
    refine (hex_any b a n cap w4 HBR.out (Nat.le_trans HL.out (by decide))).mono ?_
    rintro x w5 ⟨rfl, b5⟩
    have b15 := below_on b14 b5 b14.size
    have HB15 := Lib.hid (below_on HB14.out b5 HB14.out.size)
    go_wp2_with (fail)
    refine ⟨hbel _ b15, ?_⟩
    refine rg_cut 14 ?_
    go_wp2_with (fail)
    refine rg_do 15 ?_
    go_wp2_with (fail)
    have hjl := wholeS_len e H0.out H1.out
    have hjd := dig_len (n := id) (by have := HI.out; omega)
    have hjc := dig_len (n := code) (by have := HC.out; omega)
    have hjh := hexS_len b
    have hjb := HL.out
    refine (join6_any w5.heap.size 9 [121, 101, 115] (wholeS e) (dig id) [101, 110, 100] (dig code) (hexS b) _ (Blk.new w5 _ _) (by simp only [List.length_cons, List.length_nil]; omega)).mono ?_
    rintro x w6 ⟨rfl, b6⟩
    have HB6 := Lib.hid (below_on (HB15.out.alloc HB15.out.size (.cells #[.string ⟨#[121, 101, 115]⟩, .string (tx (wholeS e)), .string (tx (dig id)), .string ⟨#[101, 110, 100]⟩, .string (tx (dig code)), .string (tx (hexS b))] 9)) b6 (by have := HB15.out.size; simp; omega))
    have HR2 := Lib.hid (show [121, 101, 115] ++ (32 :: (wholeS e ++ (32 :: (dig id ++ (32 :: ([101, 110, 100] ++ (32 :: (dig code ++ (32 :: hexS b))))))))) = R from HR.out)
    rw [HR2.out]
    clear b6 hjl hjd hjc hjh hjb hbel hC hne k1 k2 k3 k5
    go_wp2_with (fail)
    refine rg_below fun p hx hne hC hbel => ?_
    refine rg_quiet 0 [16] hC ?_
    simp only [pickD, List.map_cons, List.map_nil, List.getD_cons_zero, List.getD_cons_succ]; repeat (go_big_quiet_step (fail))
    refine wpQuiet_nil ?_
    refine rg_end ?_
    clear hx hne hC hbel
    go_wp2_with (fail)
    go_returns
    exact ⟨rfl, HB6.out⟩
end Go.Proofs.YthangjgdjhhfgaaDoor
