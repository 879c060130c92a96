/- script.put (written by gen_scl4.py). -/
import Derived.Test.YthangjgdjhhfgaaGreatDoorScW9
import Derived.Test.YthangjgdjhhfgaaGreatDoorScL1
namespace Go.Proofs.YthangjgdjhhfgaaGreatDoor
open Go.RowKit
set_option linter.unusedVariables false
/-- A move in a block, whose bytes are read in an older world. -/
structure MrAt (w0 w : World) (mb : Nat) (m : Mv) : Prop where
  below : Below w0.heap.size w0 w
  ge : w0.heap.size ≤ mb
  ex : ∃ aB nB cB aD nD cD, Blk w mb (mvCs m (.slice aB nB cB) (.slice aD nD cD)) 35 ∧ BR w0 aB nB m.b ∧ BR w0 aD nD m.d
theorem BR.nil (w : World) : BR w none 0 [] := ⟨fun i hi => by simp [i8] at hi, rfl⟩
theorem MrAt.on {w0 w w' : World} {mb : Nat} {m : Mv} (h : MrAt w0 w mb m) (hb : Below w.heap.size w w') : MrAt w0 w' mb m := by
  obtain ⟨h1, h2, aB, nB, cB, aD, nD, cD, h3, h4⟩ := h
  exact ⟨below_on h1 hb h1.size, h2, aB, nB, cB, aD, nD, cD, h3.below hb, h4⟩
theorem MrAt.other {w0 w w' : World} {mb : Nat} {m : Mv} {S : Nat → Prop} (h : MrAt w0 w mb m) (hb : Only S w w') (hs : ∀ k, k < w0.heap.size → ¬ S k) (hm : ¬ S mb) : MrAt w0 w' mb m := by
  obtain ⟨h1, h2, aB, nB, cB, aD, nD, cD, h3, h4⟩ := h
  exact ⟨below_onto h1 hb h1.size hs, h2, aB, nB, cB, aD, nD, cD, hb.blk h3 hm, h4⟩
/-- What put leaves. -/
def PutPost (w0 w : World) (mb : Nat) (c : UInt8) (m : Mv) (e : Ending) (w' : World) : Prop := e = .returned (.string (tx (fieldS c m))) ∧ MrAt w0 w' mb (clearM c m) ∧ Only (· = mb) w w' 
set_option maxRecDepth 100000 in
set_option maxHeartbeats 8000000 in
theorem put_115 (w0 w : World) (mb : Nat) (m : Mv) (h : MrAt w0 w mb m) (ok : MvOk m) (hb : m.b.length ≤ 4000000) (hd : m.d.length ≤ 4000000) (hV : Vars w) :
    Calls Tryz.prog 16 #[.pointer (some ⟨mb, 0, none⟩), .int .i32 115] w fun e w' => PutPost w0 w mb 115 m e w' := by
  obtain ⟨hbl, hge, aB, nB, cB, aD, nD, cD, hk, hB, hD⟩ := h
  have HK := Lib.hid hk
  have HBL := Lib.hid hbl
  have HGE := Lib.hid hge
  have HB := Lib.hid hB
  have HD := Lib.hid hD
  have HOK := Lib.hid ok
  have HLB := Lib.hid hb
  have HV := Lib.hid hV
  have c1 : w.cell? ⟨mb, 1, none⟩ = some (.int .u8 (m.side : Nat)) := hk.cell 1 _ rfl
  have HFS : Hid (fieldS 115 m = dig m.side) := Lib.hid rfl
  have HCM : Hid (clearM 115 m = { m with side := 0 }) := Lib.hid rfl
  have hs1 := ok.side
  have HC := Lib.hid (num_any m.side w (by have := HOK.out.side; omega) HV.out.pow)
  obtain ⟨fv, hfv⟩ : ∃ x, dig m.side = x := ⟨_, rfl⟩
  rw [hfv] at HC HFS
  clear hbl hge hk hB hD ok hb hd hV hfv
  go_enter Tryz.func16, Tryz.ntmps16
  go_wp2_with (fail)
  refine HC.out.mono ?_
  rintro e w1 ⟨rfl, b1⟩
  have hk1 := HK.out.below b1
  have f1 := hk1.free 1
  have d1 : w1.cell? ⟨mb, 1, none⟩ = some (.int .u8 (m.side : Nat)) := hk1.cell 1 _ rfl
  have K2 := Lib.hid ((hk1.set 1 (.int .u8 0)).congr (show _ = mvCs { m with side := 0 } (.slice aB nB cB) (.slice aD nD cD) from rfl))
  have O2 := Lib.hid ((only_of_below b1 (· = mb)).set 1 (.int .u8 0))
  clear hk1 b1 c1
  go_wp2_with (fail)
  go_returns
  refine ⟨by rw [HFS.out]; rfl, ⟨below_onto HBL.out O2.out HBL.out.size (by intro k hk e; have := HGE.out; omega), HGE.out, aB, nB, cB, aD, nD, cD, by rw [HCM.out]; exact K2.out, by rw [HCM.out]; exact HB.out, by rw [HCM.out]; exact HD.out⟩, O2.out⟩
set_option maxRecDepth 100000 in
set_option maxHeartbeats 8000000 in
theorem put_110 (w0 w : World) (mb : Nat) (m : Mv) (h : MrAt w0 w mb m) (ok : MvOk m) (hb : m.b.length ≤ 4000000) (hd : m.d.length ≤ 4000000) (hV : Vars w) :
    Calls Tryz.prog 16 #[.pointer (some ⟨mb, 0, none⟩), .int .i32 110] w fun e w' => PutPost w0 w mb 110 m e w' := by
  obtain ⟨hbl, hge, aB, nB, cB, aD, nD, cD, hk, hB, hD⟩ := h
  have HK := Lib.hid hk
  have HBL := Lib.hid hbl
  have HGE := Lib.hid hge
  have HB := Lib.hid hB
  have HD := Lib.hid hD
  have HOK := Lib.hid ok
  have HLB := Lib.hid hb
  have HV := Lib.hid hV
  have c1 : w.cell? ⟨mb, 2, none⟩ = some (.int .i64 m.n) := hk.cell 2 _ rfl
  have HFS : Hid (fieldS 110 m = wholeS m.n) := Lib.hid rfl
  have HCM : Hid (clearM 110 m = { m with n := 0 }) := Lib.hid rfl
  have HC := Lib.hid (itoa_any m.n w HOK.out.n0 HOK.out.n1 HV.out.pow)
  obtain ⟨fv, hfv⟩ : ∃ x, wholeS m.n = x := ⟨_, rfl⟩
  rw [hfv] at HC HFS
  clear hbl hge hk hB hD ok hb hd hV hfv
  go_enter Tryz.func16, Tryz.ntmps16
  go_wp2_with (fail)
  refine HC.out.mono ?_
  rintro e w1 ⟨rfl, b1⟩
  have hk1 := HK.out.below b1
  have f1 := hk1.free 2
  have d1 : w1.cell? ⟨mb, 2, none⟩ = some (.int .i64 m.n) := hk1.cell 2 _ rfl
  have K2 := Lib.hid ((hk1.set 2 (.int .i64 0)).congr (show _ = mvCs { m with n := 0 } (.slice aB nB cB) (.slice aD nD cD) from rfl))
  have O2 := Lib.hid ((only_of_below b1 (· = mb)).set 2 (.int .i64 0))
  clear hk1 b1 c1
  go_wp2_with (fail)
  go_returns
  refine ⟨by rw [HFS.out]; rfl, ⟨below_onto HBL.out O2.out HBL.out.size (by intro k hk e; have := HGE.out; omega), HGE.out, aB, nB, cB, aD, nD, cD, by rw [HCM.out]; exact K2.out, by rw [HCM.out]; exact HB.out, by rw [HCM.out]; exact HD.out⟩, O2.out⟩
set_option maxRecDepth 100000 in
set_option maxHeartbeats 8000000 in
theorem put_105 (w0 w : World) (mb : Nat) (m : Mv) (h : MrAt w0 w mb m) (ok : MvOk m) (hb : m.b.length ≤ 4000000) (hd : m.d.length ≤ 4000000) (hV : Vars w) :
    Calls Tryz.prog 16 #[.pointer (some ⟨mb, 0, none⟩), .int .i32 105] w fun e w' => PutPost w0 w mb 105 m e w' := by
  obtain ⟨hbl, hge, aB, nB, cB, aD, nD, cD, hk, hB, hD⟩ := h
  have HK := Lib.hid hk
  have HBL := Lib.hid hbl
  have HGE := Lib.hid hge
  have HB := Lib.hid hB
  have HD := Lib.hid hD
  have HOK := Lib.hid ok
  have HLB := Lib.hid hb
  have HV := Lib.hid hV
  have c1 : w.cell? ⟨mb, 3, none⟩ = some (.int .u64 (m.id : Nat)) := hk.cell 3 _ rfl
  have HFS : Hid (fieldS 105 m = dig m.id) := Lib.hid rfl
  have HCM : Hid (clearM 105 m = { m with id := 0 }) := Lib.hid rfl
  have HC := Lib.hid (num_any m.id w (by have := HOK.out.id; simp only [M64] at this; omega) HV.out.pow)
  obtain ⟨fv, hfv⟩ : ∃ x, dig m.id = x := ⟨_, rfl⟩
  rw [hfv] at HC HFS
  clear hbl hge hk hB hD ok hb hd hV hfv
  go_enter Tryz.func16, Tryz.ntmps16
  go_wp2_with (fail)
  refine HC.out.mono ?_
  rintro e w1 ⟨rfl, b1⟩
  have hk1 := HK.out.below b1
  have f1 := hk1.free 3
  have d1 : w1.cell? ⟨mb, 3, none⟩ = some (.int .u64 (m.id : Nat)) := hk1.cell 3 _ rfl
  have K2 := Lib.hid ((hk1.set 3 (.int .u64 0)).congr (show _ = mvCs { m with id := 0 } (.slice aB nB cB) (.slice aD nD cD) from rfl))
  have O2 := Lib.hid ((only_of_below b1 (· = mb)).set 3 (.int .u64 0))
  clear hk1 b1 c1
  go_wp2_with (fail)
  go_returns
  refine ⟨by rw [HFS.out]; rfl, ⟨below_onto HBL.out O2.out HBL.out.size (by intro k hk e; have := HGE.out; omega), HGE.out, aB, nB, cB, aD, nD, cD, by rw [HCM.out]; exact K2.out, by rw [HCM.out]; exact HB.out, by rw [HCM.out]; exact HD.out⟩, O2.out⟩
set_option maxRecDepth 100000 in
set_option maxHeartbeats 8000000 in
theorem put_99 (w0 w : World) (mb : Nat) (m : Mv) (h : MrAt w0 w mb m) (ok : MvOk m) (hb : m.b.length ≤ 4000000) (hd : m.d.length ≤ 4000000) (hV : Vars w) :
    Calls Tryz.prog 16 #[.pointer (some ⟨mb, 0, none⟩), .int .i32 99] w fun e w' => PutPost w0 w mb 99 m e w' := by
  obtain ⟨hbl, hge, aB, nB, cB, aD, nD, cD, hk, hB, hD⟩ := h
  have HK := Lib.hid hk
  have HBL := Lib.hid hbl
  have HGE := Lib.hid hge
  have HB := Lib.hid hB
  have HD := Lib.hid hD
  have HOK := Lib.hid ok
  have HLB := Lib.hid hb
  have HV := Lib.hid hV
  have c1 : w.cell? ⟨mb, 4, none⟩ = some (.int .u64 (m.code : Nat)) := hk.cell 4 _ rfl
  have HFS : Hid (fieldS 99 m = dig m.code) := Lib.hid rfl
  have HCM : Hid (clearM 99 m = { m with code := 0 }) := Lib.hid rfl
  have HC := Lib.hid (num_any m.code w (by have := HOK.out.code; simp only [M64] at this; omega) HV.out.pow)
  obtain ⟨fv, hfv⟩ : ∃ x, dig m.code = x := ⟨_, rfl⟩
  rw [hfv] at HC HFS
  clear hbl hge hk hB hD ok hb hd hV hfv
  go_enter Tryz.func16, Tryz.ntmps16
  go_wp2_with (fail)
  refine HC.out.mono ?_
  rintro e w1 ⟨rfl, b1⟩
  have hk1 := HK.out.below b1
  have f1 := hk1.free 4
  have d1 : w1.cell? ⟨mb, 4, none⟩ = some (.int .u64 (m.code : Nat)) := hk1.cell 4 _ rfl
  have K2 := Lib.hid ((hk1.set 4 (.int .u64 0)).congr (show _ = mvCs { m with code := 0 } (.slice aB nB cB) (.slice aD nD cD) from rfl))
  have O2 := Lib.hid ((only_of_below b1 (· = mb)).set 4 (.int .u64 0))
  clear hk1 b1 c1
  go_wp2_with (fail)
  go_returns
  refine ⟨by rw [HFS.out]; rfl, ⟨below_onto HBL.out O2.out HBL.out.size (by intro k hk e; have := HGE.out; omega), HGE.out, aB, nB, cB, aD, nD, cD, by rw [HCM.out]; exact K2.out, by rw [HCM.out]; exact HB.out, by rw [HCM.out]; exact HD.out⟩, O2.out⟩
set_option maxRecDepth 100000 in
set_option maxHeartbeats 8000000 in
theorem put_98 (w0 w : World) (mb : Nat) (m : Mv) (h : MrAt w0 w mb m) (ok : MvOk m) (hb : m.b.length ≤ 4000000) (hd : m.d.length ≤ 4000000) (hV : Vars w) :
    Calls Tryz.prog 16 #[.pointer (some ⟨mb, 0, none⟩), .int .i32 98] w fun e w' => PutPost w0 w mb 98 m e w' := by
  obtain ⟨hbl, hge, aB, nB, cB, aD, nD, cD, hk, hB, hD⟩ := h
  have HK := Lib.hid hk
  have HBL := Lib.hid hbl
  have HGE := Lib.hid hge
  have HB := Lib.hid hB
  have HD := Lib.hid hD
  have HOK := Lib.hid ok
  have HLB := Lib.hid hb
  have HV := Lib.hid hV
  have c1 : w.cell? ⟨mb, 5, none⟩ = some (.slice aB nB cB) := hk.cell 5 _ rfl
  have HFS : Hid (fieldS 98 m = hexS m.b) := Lib.hid rfl
  have HCM : Hid (clearM 98 m = { m with b := [] }) := Lib.hid rfl
  have HC := Lib.hid (hex_any m.b aB nB cB w (HB.out.below HBL.out) HLB.out)
  obtain ⟨fv, hfv⟩ : ∃ x, hexS m.b = x := ⟨_, rfl⟩
  rw [hfv] at HC HFS
  clear hbl hge hk hB hD ok hb hd hV hfv
  go_enter Tryz.func16, Tryz.ntmps16
  go_wp2_with (fail)
  refine HC.out.mono ?_
  rintro e w1 ⟨rfl, b1⟩
  have hk1 := HK.out.below b1
  have f1 := hk1.free 5
  have d1 : w1.cell? ⟨mb, 5, none⟩ = some (.slice aB nB cB) := hk1.cell 5 _ rfl
  have K2 := Lib.hid ((hk1.set 5 (.slice none 0 0)).congr (show _ = mvCs { m with b := [] } (.slice none 0 0) (.slice aD nD cD) from rfl))
  have O2 := Lib.hid ((only_of_below b1 (· = mb)).set 5 (.slice none 0 0))
  clear hk1 b1 c1
  go_wp2_with (fail)
  go_returns
  refine ⟨by rw [HFS.out]; rfl, ⟨below_onto HBL.out O2.out HBL.out.size (by intro k hk e; have := HGE.out; omega), HGE.out, none, 0, 0, aD, nD, cD, by rw [HCM.out]; exact K2.out, by rw [HCM.out]; exact BR.nil _, by rw [HCM.out]; exact HD.out⟩, O2.out⟩
set_option maxRecDepth 100000 in
set_option maxHeartbeats 8000000 in
theorem put_100 (w0 w : World) (mb : Nat) (m : Mv) (h : MrAt w0 w mb m) (ok : MvOk m) (hb : m.b.length ≤ 4000000) (hd : m.d.length ≤ 4000000) (hV : Vars w) (hVw : Vars w0) :
    Calls Tryz.prog 16 #[.pointer (some ⟨mb, 0, none⟩), .int .i32 100] w fun e w' => PutPost w0 w mb 100 m e w' := by
  obtain ⟨hbl, hge, aB, nB, cB, aD, nD, cD, hk, hB, hD⟩ := h
  have HK := Lib.hid hk
  have HBL := Lib.hid hbl
  have HGE := Lib.hid hge
  have HB := Lib.hid hB
  have HD := Lib.hid hD
  have HOK := Lib.hid ok
  have HLB := Lib.hid hd
  have HV := Lib.hid hV
  have hlt := hk.lt
  have c6 : w.cell? ⟨mb, 6, none⟩ = some (.int .u32 (m.from_ : Nat)) := hk.cell 6 _ rfl
  have c7 : w.cell? ⟨mb, 7, none⟩ = some (.int .u32 (m.to_ : Nat)) := hk.cell 7 _ rfl
  have c8 : w.cell? ⟨mb, 8, none⟩ = some (.slice aD nD cD) := hk.cell 8 _ rfl
  have HFS : Hid (fieldS 100 m = dig m.from_ ++ (32 :: (dig m.to_ ++ (32 :: hexS m.d)))) := Lib.hid rfl
  have HCM : Hid (clearM 100 m = { m with from_ := 0, to_ := 0, d := [] }) := Lib.hid rfl
  have hf32 := ok.from_
  have ht32 := ok.to_
  have HC1 := Lib.hid (fun (u : World) (hu : Below w.heap.size w u) => num_any m.from_ u (by have := HOK.out.from_; omega) (HV.out.below hu).pow)
  have HC2 := Lib.hid (fun (u : World) (hu : Below w.heap.size w u) => num_any m.to_ u (by have := HOK.out.to_; omega) (HV.out.below hu).pow)
  have HC3 := Lib.hid (fun (u : World) (hu : Below w.heap.size w u) => hex_any m.d aD nD cD u (HD.out.below (below_on HBL.out hu HBL.out.size)) HLB.out)
  obtain ⟨x1, hx1⟩ : ∃ x, dig m.from_ = x := ⟨_, rfl⟩
  obtain ⟨x2, hx2⟩ : ∃ x, dig m.to_ = x := ⟨_, rfl⟩
  obtain ⟨x3, hx3⟩ : ∃ x, hexS m.d = x := ⟨_, rfl⟩
  have l1 : x1.length ≤ 20 := by rw [← hx1]; exact dig_len (by omega)
  have l2 : x2.length ≤ 20 := by rw [← hx2]; exact dig_len (by omega)
  have l3 : x3.length ≤ 10000000 := by
    rw [← hx3]
    have h1 : (hexS m.d).length ≤ 2 * m.d.length + 1 := by
      unfold hexS
      split
      · simp
      · rw [hexD_len]; omega
    omega
  rw [hx1] at HC1 HFS
  rw [hx2] at HC2 HFS
  rw [hx3] at HC3 HFS
  clear hx1 hx2 hx3
  have s1 : ∀ W, (Op.stringOp .add (tx x1) (tx [32])).run Tryz.prog W = .ok (.string (tx (x1 ++ [32]))) W := fun W => run_add _ _ _ _ (by simp only [List.length_cons, List.length_nil]; omega)
  obtain ⟨y1, hy1⟩ : ∃ y, x1 ++ [32] = y := ⟨_, rfl⟩
  have m1 := congrArg List.length hy1
  simp only [List.length_append, List.length_cons, List.length_nil] at m1
  rw [hy1] at s1
  have s2 : ∀ W, (Op.stringOp .add (tx y1) (tx x2)).run Tryz.prog W = .ok (.string (tx (y1 ++ x2))) W := fun W => run_add _ _ _ _ (by omega)
  obtain ⟨y2, hy2⟩ : ∃ y, y1 ++ x2 = y := ⟨_, rfl⟩
  have m2 := congrArg List.length hy2
  simp only [List.length_append] at m2
  rw [hy2] at s2
  have s3 : ∀ W, (Op.stringOp .add (tx y2) (tx [32])).run Tryz.prog W = .ok (.string (tx (y2 ++ [32]))) W := fun W => run_add _ _ _ _ (by simp only [List.length_cons, List.length_nil]; omega)
  obtain ⟨y3, hy3⟩ : ∃ y, y2 ++ [32] = y := ⟨_, rfl⟩
  have m3 := congrArg List.length hy3
  simp only [List.length_append, List.length_cons, List.length_nil] at m3
  rw [hy3] at s3
  have s4 : ∀ W, (Op.stringOp .add (tx y3) (tx x3)).run Tryz.prog W = .ok (.string (tx (y3 ++ x3))) W := fun W => run_add _ _ _ _ (by omega)
  obtain ⟨y4, hy4⟩ : ∃ y, y3 ++ x3 = y := ⟨_, rfl⟩
  rw [hy4] at s4
  have HY : Hid (y4 = fieldS 100 m) := Lib.hid (by rw [HFS.out, ← hy4, ← hy3, ← hy2, ← hy1]; simp)
  clear hbl hge hk hB hD ok hb hd hV hVw hy1 hy2 hy3 hy4 m1 m2 m3 l1 l2 l3
  go_enter Tryz.func16, Tryz.ntmps16
  go_wp2_with (fail)
  refine rg_start 25 ?_
  refine rg_below fun p hx hne hC hbel => ?_
  have k6 : ∀ z : Wd p, z.w.cell? ⟨mb, 6, none⟩ = _ := fun z => (hx z _ _ _ hlt).trans c6
  have k7 : ∀ z : Wd p, z.w.cell? ⟨mb, 7, none⟩ = _ := fun z => (hx z _ _ _ hlt).trans c7
  have k8 : ∀ z : Wd p, z.w.cell? ⟨mb, 8, none⟩ = _ := fun z => (hx z _ _ _ hlt).trans c8
  clear hx
  refine rg_quiet 8 [0,1,2,3,4,5,8,9,10,11,12,13,17,18,19,20,21] hC ?_
  simp only [pickD, List.map_cons, List.map_nil, List.getD_cons_zero, List.getD_cons_succ]; repeat (go_big_quiet_step (fail))
  refine wpQuiet_nil ?_
  refine rg_act 6 ?_
  go_wp2_with (fail)
  refine (HC1.out w.drew (Below.refl _ _).drew).mono ?_
  rintro e w1 ⟨rfl, b1⟩
  go_wp2_with (fail)
  refine ⟨hbel _ b1, ?_⟩
  refine rg_quiet 6 [7] (hbel _ b1) ?_
  simp only [pickD, List.map_cons, List.map_nil, List.getD_cons_zero, List.getD_cons_succ]; repeat (go_big_quiet_step (fail))
  refine wpQuiet_nil ?_
  refine rg_act 14 ?_
  go_wp2_with (fail)
  refine (HC2.out w1 ((Below.refl _ _).drew.trans b1)).mono ?_
  rintro e w2 ⟨rfl, b2'⟩
  have b2 := below_on b1 b2' b1.size
  go_wp2_with (fail)
  refine ⟨hbel _ b2, ?_⟩
  refine rg_quiet 3 [15,16] (hbel _ b2) ?_
  simp only [pickD, List.map_cons, List.map_nil, List.getD_cons_zero, List.getD_cons_succ]; repeat (go_big_quiet_step (fail))
  refine wpQuiet_nil ?_
  refine rg_act 22 ?_
  go_wp2_with (fail)
  refine (HC3.out w2 ((Below.refl _ _).drew.trans b2)).mono ?_
  rintro e w3 ⟨rfl, b3'⟩
  have b3 := below_on b2 b3' b2.size
  go_wp2_with (fail)
  refine ⟨hbel _ b3, ?_⟩
  refine rg_quiet 0 [23,24] (hbel _ b3) ?_
  simp only [pickD, List.map_cons, List.map_nil, List.getD_cons_zero, List.getD_cons_succ]; repeat (go_big_quiet_step (fail))
  refine wpQuiet_nil ?_
  refine rg_end ?_
  have B3 := Lib.hid (show Below w.heap.size w w3 from (Below.refl _ _).drew.trans b3)
  have K3 := Lib.hid (HK.out.below B3.out)
  have d6 : w3.cell? ⟨mb, 6, none⟩ = some (.int .u32 (m.from_ : Nat)) := K3.out.cell 6 _ rfl
  have d7 : w3.cell? ⟨mb, 7, none⟩ = some (.int .u32 (m.to_ : Nat)) := K3.out.cell 7 _ rfl
  have d8 : w3.cell? ⟨mb, 8, none⟩ = some (.slice aD nD cD) := K3.out.cell 8 _ rfl
  have f6 := K3.out.free 6
  have f7 := K3.out.free 7
  have f8 := K3.out.free 8
  clear b1 b2 b3 b2' b3' hbel hC hne k6 k7 k8 c6 c7 c8
  go_wp2_with (fail)
  go_returns
  have K4 := (((K3.out.set 6 (.int .u32 0)).set 7 (.int .u32 0)).set 8 (.slice none 0 0)).congr (show _ = mvCs { m with from_ := 0, to_ := 0, d := [] } (.slice aB nB cB) (.slice none 0 0) from rfl)
  have O4 := (((only_of_below B3.out (· = mb)).set 6 (.int .u32 0)).set 7 (.int .u32 0)).set 8 (.slice none 0 0)
  refine ⟨by rw [← HY.out]; rfl, ⟨below_onto HBL.out O4 HBL.out.size (by intro k hk e; have := HGE.out; omega), HGE.out, aB, nB, cB, none, 0, 0, by rw [HCM.out]; exact K4, by rw [HCM.out]; exact HB.out, by rw [HCM.out]; exact BR.nil _⟩, O4⟩
theorem put_any (w0 w : World) (mb : Nat) (c : UInt8) (hc : c = 115 ∨ c = 110 ∨ c = 105 ∨ c = 99 ∨ c = 98 ∨ c = 100) (m : Mv) (h : MrAt w0 w mb m) (ok : MvOk m) (hb : m.b.length ≤ 4000000) (hd : m.d.length ≤ 4000000) (hV : Vars w) (hV0 : Vars w0) :
    Calls Tryz.prog 16 #[.pointer (some ⟨mb, 0, none⟩), .int .i32 c.toNat] w fun e w' => PutPost w0 w mb c m e w' := by
  rcases hc with rfl | rfl | rfl | rfl | rfl | rfl
  · exact put_115 w0 w mb m h ok hb hd hV
  · exact put_110 w0 w mb m h ok hb hd hV
  · exact put_105 w0 w mb m h ok hb hd hV
  · exact put_99 w0 w mb m h ok hb hd hV
  · exact put_98 w0 w mb m h ok hb hd hV
  · exact put_100 w0 w mb m h ok hb hd hV hV0
theorem clear_ok {c : UInt8} {m : Mv} (ok : MvOk m) : MvOk (clearM c m) := by
  obtain ⟨h1, h2, h3, h4, h5, h6, h7, h8⟩ := ok
  unfold clearM
  split
  · exact ⟨h1, by simp, h3, h4, h5, h6, h7, h8⟩
  · split
    · exact ⟨h1, h2, by simp, by simp, h5, h6, h7, h8⟩
    · split
      · exact ⟨h1, h2, h3, h4, by simp, h6, h7, h8⟩
      · split
        · exact ⟨h1, h2, h3, h4, h5, by simp, h7, h8⟩
        · split
          · exact ⟨h1, h2, h3, h4, h5, h6, h7, h8⟩
          · exact ⟨h1, h2, h3, h4, h5, h6, by simp, by simp⟩
theorem clear_len {c : UInt8} {m : Mv} : (clearM c m).b.length ≤ m.b.length ∧ (clearM c m).d.length ≤ m.d.length ∧ (clearM c m).kind = m.kind := by
  unfold clearM
  repeat (first | exact ⟨Nat.le_refl _, Nat.le_refl _, rfl⟩ | exact ⟨by simp, Nat.le_refl _, rfl⟩ | exact ⟨Nat.le_refl _, by simp, rfl⟩ | split)
theorem fieldS_len {c : UInt8} {m : Mv} (ok : MvOk m) (hb : m.b.length ≤ 4000000) (hd : m.d.length ≤ 4000000) : (fieldS c m).length ≤ 9000000 := by
  have h0 : ∀ l : List UInt8, (hexS l).length ≤ 2 * l.length + 1 := fun l => by
    unfold hexS
    split
    · simp
    · rw [hexD_len]; omega
  obtain ⟨h1, h2, h3, h4, h5, h6, h7, h8⟩ := ok
  simp only [M64] at h5 h6
  unfold fieldS
  split
  · have := dig_len (n := m.side) (by omega); omega
  · split
    · have h9 : (wholeS m.n).length ≤ 41 := by
        unfold wholeS
        split
        · have := dig_len (n := m.n.natAbs) (by omega); simp; omega
        · have := dig_len (n := m.n.toNat) (by omega); omega
      omega
    · split
      · have := dig_len (n := m.id) (by omega); omega
      · split
        · have := dig_len (n := m.code) (by omega); omega
        · split
          · have := h0 m.b; omega
          · have := h0 m.d
            have := dig_len (n := m.from_) (by omega)
            have := dig_len (n := m.to_) (by omega)
            simp only [List.length_append, List.length_cons]; omega
end Go.Proofs.YthangjgdjhhfgaaGreatDoor
