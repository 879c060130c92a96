/- ParamBack: the walk. (Written by gen_par15.py.) -/
import Derived.Test.YtjeolfnmheofeaaPar12
import Derived.Test.YtjeolfnmheofeaaPar14
namespace Go.Proofs.Ytjeolfnmheofeaa
open Go.RowKit
set_option linter.unusedVariables false
namespace Par
open Var (Byte bytes_et wf_byte)

theorem bare_alike (p : PV) : Alike (bare p) p := by cases p; rfl
theorem alike_trans {p q r : PV} (h : Alike p q) (k : Alike q r) : Alike p r := by
  unfold Alike at h k ⊢
  rw [k, h]
theorem alike_may {p q : PV} (h : Alike p q) : mayF q = mayF p := by rw [h]; rfl
theorem alike_bytes {p q : PV} (h : Alike p q) : paramB q = paramB p := by rw [h]; rfl
theorem alike_num {p q : PV} (h : Alike p q) (k : Nat) : q.num k = p.num k := by rw [h]; unfold PV.num; split <;> rfl
theorem take_nil : takeP [] = some p0 := rfl

set_option maxHeartbeats 16000000 in
set_option maxRecDepth 100000 in
theorem pback_law (p : PV) (a : Option Addr) (cap : Nat) (L : List Int) (w : World) (hp : p.ok w) (hS : Sl .u8 w a cap L) (hm1 : L.length ≤ 140737488355328) (hm2 : p.O.length ≤ 140737488355328) (hm3 : p.C.length ≤ 140737488355328) :
    Calls Try.prog 7 #[.agg p.vals, .slice a L.length cap] w fun e w' => e = .returned (.bool true) ∧ Below w.heap.size w w' := by
  have HLB := Lib.hid (Var.sl_byte hS)
  have HS := Lib.hid hS
  have HP := Lib.hid hp
  have HN : Hid (∀ k, 0 ≤ p.num k) := Lib.hid fun k => (hp.n k).1
  clear hS hp
  go_enter Try.func7, Try.ntmps7
  have hb0 := Blk.new w p.vals 46
  have kb : Below w.heap.size w (w.alloc (.cells p.vals 46)) := (Below.refl _ _).alloc (Nat.le_refl _) _
  go_wp2_with (fail)
  refine (known_any _).mono ?_
  rintro e w1 ⟨rfl, hb1⟩
  have k1 := below_on kb hb1 kb.size
  have HB1 := Lib.hid (hb0.below hb1)
  have HP1 := Lib.hid (HP.out.below k1)
  have HS1 := Lib.hid (HS.out.below k1)
  have z1 := k1.size
  clear hb0 kb hb1
  have hc0 := HB1.out.cell 0 (.slice p.oa p.O.length p.oc) rfl
  have hc1 := HB1.out.cell 1 (.slice p.ca p.C.length p.cc) rfl
  by_cases hl : p.O.length + p.C.length + L.length ≤ 2000
  · by_cases hbig : p.O.length ≤ 2000 ∧ p.C.length ≤ 2000 ∧ L.length ≤ 2000
    · obtain ⟨hbo, hbc, hbb⟩ := hbig
      go_wp2_with (with_reducible refine stop_ldp ?_)
      refine Stop.out ?_
      refine wpList_loadAll Try.underlying46 params_size rfl rfl rfl HB1.out rfl ?_
      go_wp2_with (fail)
      refine (pappend_any none 0 0 [] p _ rfl (by simp) (Sl.nil _ _) HP1.out).mono ?_
      rintro e w2 ⟨hb2, hyes, hno⟩
      have k2 := below_on k1 hb2 z1
      have z2 := k2.size
      have HS2 := Lib.hid (HS1.out.below hb2)
      have HB2 := Lib.hid (HB1.out.below hb2)
      cases hm : mayF p with
      | false =>
        obtain rfl := hno hm
        clear hyes hno hm HB1 HP1 HS1 hc0 hc1 hb2
        go_wp2_with (fail)
        refine (ptake_any a _ cap L _ rfl (by omega) HS2.out).mono ?_
        rintro e v1 ⟨hv1, q, hqok, hyes, hno⟩
        have j1 := below_on k2 hv1 z2
        have y1 := j1.size
        cases ht : takeP L with
        | none =>
          obtain ⟨rfl, rfl⟩ := hno ht
          clear hyes hno ht hqok
          go_wp2_with (with_reducible refine stop_storep ?_)
          refine Stop.out ?_
          refine wpList_storep rfl rfl rfl rfl (Blk.new v1 p0.vals 46) params_size ?_
          intro v2 hq2 o2
          have j2 : Below w.heap.size w v2 := below_onto (j1.alloc y1 _) o2 (by simp; omega) (by intro z hz h; omega)
          clear hq2 o2
          go_wp2_with (fail)
          go_returns
          exact ⟨rfl, j2⟩
        | some pc =>
          obtain ⟨rfl, hal⟩ := hyes pc ht
          have hmay := takeP_may HLB.out ht
          have HMAY := Lib.hid hmay
          have HAL := Lib.hid hal
          have HQ := Lib.hid hqok
          have hlen : (paramB pc).length ≤ L.length := hmay.2.2
          clear hyes hno ht hqok hal hmay
          go_wp2_with (with_reducible refine stop_storep ?_)
          refine Stop.out ?_
          refine wpList_storep rfl rfl rfl rfl (Blk.new v1 p0.vals 46) params_size ?_
          intro v2 hq2 o2
          have j2 : Below w.heap.size w v2 := below_onto (j1.alloc y1 _) o2 (by simp; omega) (by intro z hz h; omega)
          have i2 : Below v1.heap.size v1 v2 := below_onto ((Below.refl _ _).alloc (Nat.le_refl _) _) o2 (by simp) (by intro z hz h; omega)
          have y2 := j2.size
          have HQ2 := Lib.hid (HQ.out.below i2)
          have HC2 := Lib.hid hq2
          clear hq2 o2
          go_wp2_with (with_reducible refine stop_ldp ?_)
          refine Stop.out ?_
          refine wpList_loadAll Try.underlying46 params_size rfl rfl rfl HC2.out rfl ?_
          go_wp2_with (fail)
          refine (pappend_any none 0 0 [] q _ rfl (by simp) (Sl.nil _ _) HQ2.out).mono ?_
          rintro e v3 ⟨hv3, hyes3, hno3⟩
          obtain ⟨a3, c3, rfl, ho3⟩ := hyes3 (by rw [alike_may HAL.out]; exact HMAY.out.1)
          rw [List.nil_append, alike_bytes HAL.out] at ho3 ⊢
          have j3 := below_on j2 hv3 y2
          have y3 := j3.size
          have HQ3 := Lib.hid (HQ2.out.below hv3)
          have HC3 := Lib.hid (HC2.out.below hv3)
          have HBY : Hid (∀ y ∈ paramB pc, Byte y) := Lib.hid (by rw [← alike_bytes HAL.out]; exact paramB_bytes HQ2.out)
          have HS3 := Lib.hid (ho3.sl (L := paramB pc) (fun y hy => wf_byte (HBY.out y hy))).2
          clear hyes3 hno3 ho3 hv3
          go_wp2_with (fail)
          refine (ptake_any a3 _ c3 (paramB pc) _ rfl (by omega) HS3.out).mono ?_
          rintro e v4 ⟨hv4, q4, hqok4, hyes4, _⟩
          obtain ⟨rfl, hal4⟩ := hyes4 (bare pc) (take_back HMAY.out.1 HMAY.out.2.1)
          have j4 := below_on j3 hv4 y3
          have y4 := j4.size
          have HAL4 := Lib.hid hal4
          have HQ4 := Lib.hid hqok4
          have HQB := Lib.hid (HQ3.out.below hv4)
          have HC4 := Lib.hid (HC3.out.below hv4)
          clear hyes4 hqok4 hal4 hv4
          go_wp2_with (with_reducible refine stop_storep ?_)
          refine Stop.out ?_
          refine wpList_storep rfl rfl rfl rfl (Blk.new v4 p0.vals 46) params_size ?_
          intro v5 hq5 o5
          have j5 : Below w.heap.size w v5 := below_onto (j4.alloc y4 _) o5 (by simp; omega) (by intro z hz h; omega)
          have i5 : Below v4.heap.size v4 v5 := below_onto ((Below.refl _ _).alloc (Nat.le_refl _) _) o5 (by simp) (by intro z hz h; omega)
          have HC5 := Lib.hid (HC4.out.below i5)
          have HD5 := Lib.hid hq5
          have HQ5 := Lib.hid (HQ4.out.below i5)
          have HR5 := Lib.hid (HQB.out.below i5)
          clear hq5 o5
          go_wp2_with (with_reducible refine stop_ldp ?_)
          refine Stop.out ?_
          refine wpList_loadAll Try.underlying46 params_size rfl rfl rfl HD5.out rfl ?_
          go_wp2_with (with_reducible refine stop_ldp ?_)
          refine Stop.out ?_
          refine wpList_loadAll Try.underlying46 params_size rfl rfl rfl HC5.out rfl ?_
          go_wp2_with (fail)
          refine (same_any q4 q _ HQ5.out HR5.out (alike_trans (alike_symm HAL4.out) (alike_trans (bare_alike pc) HAL.out))).mono ?_
          rintro e v6 ⟨rfl, hv6⟩
          have j6 := below_on j5 hv6 j5.size
          go_wp2_with (fail)
          go_returns
          exact ⟨rfl, j6⟩
      | true =>
        obtain ⟨a2, c2, rfl, ho2⟩ := hyes hm
        rw [List.nil_append] at ho2 ⊢
        have HM := Lib.hid hm
        have HBY0 : Hid (∀ y ∈ paramB p, Byte y) := Lib.hid (paramB_bytes HP1.out)
        have hpl : (paramB p).length ≤ 640 := itemsTo_len HP1.out hm 16
        have HT2 := Lib.hid (ho2.sl (L := paramB p) (fun y hy => wf_byte (HBY0.out y hy))).2
        have HPB := Lib.hid (HP1.out.below hb2)
        clear hyes hno hm HB1 HP1 HS1 hc0 hc1 hb2 ho2
        go_wp2_with (fail)
        refine (ptake_any a2 _ c2 (paramB p) _ rfl (by omega) HT2.out).mono ?_
        rintro e w3 ⟨hb3, q3, hqok3, hyes3, _⟩
        obtain ⟨rfl, hal3⟩ := hyes3 (bare p) (take_back HM.out HN.out)
        have k3 := below_on k2 hb3 z2
        have z3 := k3.size
        have HAL3 := Lib.hid hal3
        have HQ3 := Lib.hid hqok3
        have HP3 := Lib.hid (HPB.out.below hb3)
        have HS3 := Lib.hid (HS2.out.below hb3)
        have HB3 := Lib.hid (HB2.out.below hb3)
        have HT3 := Lib.hid (HT2.out.below hb3)
        clear hyes3 hqok3 hal3 hb3
        go_wp2_with (with_reducible refine stop_storep ?_)
        refine Stop.out ?_
        refine wpList_storep rfl rfl rfl rfl (Blk.new w3 p0.vals 46) params_size ?_
        intro w4 hb4 o4
        have k4 : Below w.heap.size w w4 := below_onto (k3.alloc z3 _) o4 (by simp; omega) (by intro z hz h; omega)
        have i4 : Below w3.heap.size w3 w4 := below_onto ((Below.refl _ _).alloc (Nat.le_refl _) _) o4 (by simp) (by intro z hz h; omega)
        have z4 := k4.size
        have HQ4 := Lib.hid (HQ3.out.below i4)
        have HP4 := Lib.hid (HP3.out.below i4)
        have HS4 := Lib.hid (HS3.out.below i4)
        have HB4 := Lib.hid (HB3.out.below i4)
        have HT4 := Lib.hid (HT3.out.below i4)
        have HD4 := Lib.hid hb4
        clear hb4 o4
        have hown := OwnS.new w4 w.heap.size z4 5 1 0 #[] (by simp) rfl
        go_wp2_with (at_builtin; refine Stop.mk ?_)
        refine Stop.out ?_
        refine wpList_app bytes_et rfl rfl rfl rfl hown (HT4.out.below ((Below.refl _ _).alloc (Nat.le_refl _) _)).src (by unfold maxLen; omega) (by omega) (by simp; omega) ?_
        intro a5 c5 w5 ho5 hon5 hat5
        simp only [Nat.zero_add, List.nil_append] at ho5 ⊢
        have k5 : Below w.heap.size w w5 := below_onto (k4.alloc z4 _) hon5 (by simp; omega) (by rintro z hz ⟨y, hy, rfl⟩; cases hy; simp at hz; omega)
        have i5 : Below w4.heap.size w4 w5 := below_onto ((Below.refl _ _).alloc (Nat.le_refl _) _) hon5 (by simp) (by rintro z hz ⟨y, hy, rfl⟩; cases hy; simp at hz)
        have z5 := k5.size
        have HT5 := Lib.hid (HT4.out.below i5)
        go_wp2_with (at_builtin; refine Stop.mk ?_)
        refine Stop.out ?_
        refine wpList_app bytes_et rfl rfl rfl rfl ho5 HT5.out.src (by unfold maxLen; omega) (by omega) z5 ?_
        intro a6 c6 w6 ho6 hon6 hat6
        have k6 : Below w.heap.size w w6 := by
          refine below_onto k5 hon6 z5 ?_
          rintro z hz ⟨y, hy, rfl⟩
          rcases hat5 y hy with ⟨x, hx, hb⟩ | hb
          · cases hx
            rw [hb] at hz
            simp at hz
            omega
          · rw [hb] at hz
            simp at hz
            omega
        have i6 : Below w4.heap.size w4 w6 := by
          refine below_onto i5 hon6 i5.size ?_
          rintro z hz ⟨y, hy, rfl⟩
          rcases hat5 y hy with ⟨x, hx, hb⟩ | hb
          · cases hx
            rw [hb] at hz
            simp at hz
          · rw [hb] at hz
            simp at hz
            omega
        have z6 := k6.size
        have HQ6 := Lib.hid (HQ4.out.below i6)
        have HP6 := Lib.hid (HP4.out.below i6)
        have HS6 := Lib.hid (HS4.out.below i6)
        have HB6 := Lib.hid (HB4.out.below i6)
        have HD6 := Lib.hid (HD4.out.below i6)
        have HBY2 : Hid (∀ y ∈ paramB p ++ paramB p, Byte y) := Lib.hid fun y hy => by rcases List.mem_append.1 hy with h | h <;> exact HBY0.out y h
        rw [← List.map_append] at ho6
        have HT6 := Lib.hid (ho6.sl (L := paramB p ++ paramB p) (fun y hy => wf_byte (HBY2.out y hy))).2
        clear ho5 hon5 hat5 ho6 hon6 hat6 i5 i6 hown
        go_wp2_with (fail)
        refine (ptake_any a6 _ c6 (paramB p ++ paramB p) _ (by simp) (by simp; omega) HT6.out).mono ?_
        rintro e w7 ⟨hb7, q7, hqok7, hyes7, hno7⟩
        have k7 := below_on k6 hb7 z6
        have z7 := k7.size
        have HQ7 := Lib.hid (HQ6.out.below hb7)
        have HP7 := Lib.hid (HP6.out.below hb7)
        have HS7 := Lib.hid (HS6.out.below hb7)
        have HB7 := Lib.hid (HB6.out.below hb7)
        have HD7 := Lib.hid (HD6.out.below hb7)
        have hcode : ∃ c : Int, e = .returned (.tuple #[.agg q7.vals, .int .i64 c]) ∧ (paramB p = [] → c = 0) ∧ (paramB p ≠ [] → c = 2) := by
          by_cases hn0 : paramB p = []
          · exact ⟨0, (hyes7 p0 (by rw [hn0]; rfl)).1, fun _ => rfl, fun h => absurd hn0 h⟩
          · exact ⟨2, (hno7 (take_twice HM.out HN.out hn0)).1, fun h => absurd h hn0, fun _ => rfl⟩
        obtain ⟨c, rfl, hc0', hc2⟩ := hcode
        clear hyes7 hno7 hqok7 hb7
        go_wp2_with (with_reducible refine stop_storep ?_)
        refine Stop.out ?_
        refine wpList_storep rfl rfl rfl rfl (Blk.new w7 p0.vals 46) params_size ?_
        intro w8 hb8 o8
        have k8 : Below w.heap.size w w8 := below_onto (k7.alloc z7 _) o8 (by simp; omega) (by intro z hz h; omega)
        have i8 : Below w7.heap.size w7 w8 := below_onto ((Below.refl _ _).alloc (Nat.le_refl _) _) o8 (by simp) (by intro z hz h; omega)
        have z8 := k8.size
        have HQ8 := Lib.hid (HQ7.out.below i8)
        have HP8 := Lib.hid (HP7.out.below i8)
        have HS8 := Lib.hid (HS7.out.below i8)
        have HB8 := Lib.hid (HB7.out.below i8)
        have HD8 := Lib.hid (HD7.out.below i8)
        clear hb8 o8 i8
        go_wp2_with (with_reducible refine stop_ldp ?_)
        refine Stop.out ?_
        refine wpList_loadAll Try.underlying46 params_size rfl rfl rfl HB8.out rfl ?_
        go_wp2_with (with_reducible refine stop_ldp ?_)
        refine Stop.out ?_
        refine wpList_loadAll Try.underlying46 params_size rfl rfl rfl HD8.out rfl ?_
        go_wp2_with (fail)
        refine (same_any p q3 _ HP8.out HQ8.out (alike_trans (alike_symm (bare_alike p)) HAL3.out)).mono ?_
        rintro e w9 ⟨rfl, hb9⟩
        have k9 := below_on k8 hb9 z8
        have z9 := k9.size
        have HS9 := Lib.hid (HS8.out.below hb9)
        have hne : (c = 0) ↔ (((paramB p).length : Int) = 0) := by
          constructor
          · intro h
            rcases Decidable.em (paramB p = []) with h0 | h0
            · rw [h0]; rfl
            · have := hc2 h0; omega
          · intro h
            exact hc0' (List.length_eq_zero_iff.1 (by omega))
        have hneB : (c == 0) = (((paramB p).length : Int) == 0) := by
          rw [Bool.eq_iff_iff, beq_iff_eq, beq_iff_eq]
          exact hne
        clear hb9 hc0' hc2 hne
        go_wp2_with (fail)
        clear hneB
        refine (ptake_any a _ cap L _ rfl (by omega) HS9.out).mono ?_
        rintro e v1 ⟨hv1, q, hqok, hyes, hno⟩
        have j1 := below_on k9 hv1 z9
        have y1 := j1.size
        cases ht : takeP L with
        | none =>
          obtain ⟨rfl, rfl⟩ := hno ht
          clear hyes hno ht hqok
          go_wp2_with (with_reducible refine stop_storep ?_)
          refine Stop.out ?_
          refine wpList_storep rfl rfl rfl rfl (Blk.new v1 p0.vals 46) params_size ?_
          intro v2 hq2 o2
          have j2 : Below w.heap.size w v2 := below_onto (j1.alloc y1 _) o2 (by simp; omega) (by intro z hz h; omega)
          clear hq2 o2
          go_wp2_with (fail)
          go_returns
          exact ⟨rfl, j2⟩
        | some pc =>
          obtain ⟨rfl, hal⟩ := hyes pc ht
          have hmay := takeP_may HLB.out ht
          have HMAY := Lib.hid hmay
          have HAL := Lib.hid hal
          have HQ := Lib.hid hqok
          have hlen : (paramB pc).length ≤ L.length := hmay.2.2
          clear hyes hno ht hqok hal hmay
          go_wp2_with (with_reducible refine stop_storep ?_)
          refine Stop.out ?_
          refine wpList_storep rfl rfl rfl rfl (Blk.new v1 p0.vals 46) params_size ?_
          intro v2 hq2 o2
          have j2 : Below w.heap.size w v2 := below_onto (j1.alloc y1 _) o2 (by simp; omega) (by intro z hz h; omega)
          have i2 : Below v1.heap.size v1 v2 := below_onto ((Below.refl _ _).alloc (Nat.le_refl _) _) o2 (by simp) (by intro z hz h; omega)
          have y2 := j2.size
          have HQ2 := Lib.hid (HQ.out.below i2)
          have HC2 := Lib.hid hq2
          clear hq2 o2
          go_wp2_with (with_reducible refine stop_ldp ?_)
          refine Stop.out ?_
          refine wpList_loadAll Try.underlying46 params_size rfl rfl rfl HC2.out rfl ?_
          go_wp2_with (fail)
          refine (pappend_any none 0 0 [] q _ rfl (by simp) (Sl.nil _ _) HQ2.out).mono ?_
          rintro e v3 ⟨hv3, hyes3, hno3⟩
          obtain ⟨a3, c3, rfl, ho3⟩ := hyes3 (by rw [alike_may HAL.out]; exact HMAY.out.1)
          rw [List.nil_append, alike_bytes HAL.out] at ho3 ⊢
          have j3 := below_on j2 hv3 y2
          have y3 := j3.size
          have HQ3 := Lib.hid (HQ2.out.below hv3)
          have HC3 := Lib.hid (HC2.out.below hv3)
          have HBY : Hid (∀ y ∈ paramB pc, Byte y) := Lib.hid (by rw [← alike_bytes HAL.out]; exact paramB_bytes HQ2.out)
          have HS3 := Lib.hid (ho3.sl (L := paramB pc) (fun y hy => wf_byte (HBY.out y hy))).2
          clear hyes3 hno3 ho3 hv3
          go_wp2_with (fail)
          refine (ptake_any a3 _ c3 (paramB pc) _ rfl (by omega) HS3.out).mono ?_
          rintro e v4 ⟨hv4, q4, hqok4, hyes4, _⟩
          obtain ⟨rfl, hal4⟩ := hyes4 (bare pc) (take_back HMAY.out.1 HMAY.out.2.1)
          have j4 := below_on j3 hv4 y3
          have y4 := j4.size
          have HAL4 := Lib.hid hal4
          have HQ4 := Lib.hid hqok4
          have HQB := Lib.hid (HQ3.out.below hv4)
          have HC4 := Lib.hid (HC3.out.below hv4)
          clear hyes4 hqok4 hal4 hv4
          go_wp2_with (with_reducible refine stop_storep ?_)
          refine Stop.out ?_
          refine wpList_storep rfl rfl rfl rfl (Blk.new v4 p0.vals 46) params_size ?_
          intro v5 hq5 o5
          have j5 : Below w.heap.size w v5 := below_onto (j4.alloc y4 _) o5 (by simp; omega) (by intro z hz h; omega)
          have i5 : Below v4.heap.size v4 v5 := below_onto ((Below.refl _ _).alloc (Nat.le_refl _) _) o5 (by simp) (by intro z hz h; omega)
          have HC5 := Lib.hid (HC4.out.below i5)
          have HD5 := Lib.hid hq5
          have HQ5 := Lib.hid (HQ4.out.below i5)
          have HR5 := Lib.hid (HQB.out.below i5)
          clear hq5 o5
          go_wp2_with (with_reducible refine stop_ldp ?_)
          refine Stop.out ?_
          refine wpList_loadAll Try.underlying46 params_size rfl rfl rfl HD5.out rfl ?_
          go_wp2_with (with_reducible refine stop_ldp ?_)
          refine Stop.out ?_
          refine wpList_loadAll Try.underlying46 params_size rfl rfl rfl HC5.out rfl ?_
          go_wp2_with (fail)
          refine (same_any q4 q _ HQ5.out HR5.out (alike_trans (alike_symm HAL4.out) (alike_trans (bare_alike pc) HAL.out))).mono ?_
          rintro e v6 ⟨rfl, hv6⟩
          have j6 := below_on j5 hv6 j5.size
          go_wp2_with (fail)
          go_returns
          exact ⟨rfl, j6⟩
    · omega
  · go_wp2_with (fail)
    go_returns
    exact ⟨rfl, k1⟩

set_option maxRecDepth 100000 in
theorem walk_ParamBack (H : Type) (enc : TypeId × Value → H) (w : World) (base : Nat) (v0 : Value) (d0 : DataW H) (p0 : List MemPlace) (v1 : Value) (d1 : DataW H) (p1 : List MemPlace)
    (o0 : Value.okWide Try.prog w .any base 46 v0) (h0 : DataW.Trod enc Try.prog w 0 (fun _ => true) true 46 v0 d0 p0)
    (o1 : Value.okWide Try.prog w .any base 22 v1) (h1 : DataW.Trod enc Try.prog w 0 (fun _ => true) true 22 v1 d1 p1)
    (z0 : Sized Try.prog 46 d0) (z1 : Sized Try.prog 22 d1) :
    Calls Try.prog 7 #[v0, v1] w fun e w' => e = .returned (.bool true) ∧ Below w.heap.size w w' := by
  obtain ⟨a, L, cap, rfl, hS⟩ := open_sl Try.underlying22 Try.underlying5 (by kernel_rfl) o1 h1
  obtain ⟨fuel, hf⟩ := h1
  obtain ⟨a', L', cap', e', p', q', r', u', v'⟩ := open_ints_z Try.underlying22 Try.underlying5 (by kernel_rfl) hf z1
  have hl : L.length = L'.length := by simp only [Value.slice.injEq] at e'; exact e'.2.1
  rw [b5] at r'
  obtain ⟨p, rfl, hp, hO, hC⟩ := open_params o0 h0 z0
  exact pback_law p a cap L w hp hS (by unfold reachBytes at r'; omega) (by omega) (by omega)
end Par
end Go.Proofs.Ytjeolfnmheofeaa
