/- Layer 4: Same. -/
import Derived.Test.YtjeolfnmheofeaaPar6
import Derived.Test.YtjeolfnmheofeaaQuie
namespace Go.Proofs.Ytjeolfnmheofeaa
open Go.RowKit
set_option linter.unusedVariables false
namespace Par
open Var (Byte)

/-- The same parameters, wherever their ids lie. -/
def Alike (p q : PV) : Prop := q = { p with oa := q.oa, oc := q.oc, ca := q.ca, cc := q.cc }
theorem Alike.nums {p q : PV} (h : Alike p q) : numsL q = numsL p := by rw [h]; rfl
theorem Alike.O {p q : PV} (h : Alike p q) : q.O = p.O := by rw [h]
theorem Alike.C {p q : PV} (h : Alike p q) : q.C = p.C := by rw [h]
theorem Alike.has {p q : PV} (h : Alike p q) : q.has = p.has := by rw [h]
theorem Alike.tok {p q : PV} (h : Alike p q) : q.tok = p.tok := by rw [h]; rfl

set_option maxHeartbeats 8000000 in
set_option maxRecDepth 100000 in
theorem same_any (p q : PV) (w : World) (hp : p.ok w) (hq : q.ok w) (h : Alike p q) : Calls Try.prog 27 #[.agg p.vals, .agg q.vals] w fun e w' => e = .returned (.bool true) ∧ Below w.heap.size w w' := by
  have HP := Lib.hid hp
  have HQ := Lib.hid hq
  have HA := Lib.hid h
  clear hp hq h
  go_enter Try.func27, Try.ntmps27
  go_wp2_with (fail)
  have hb1 := (Blk.new w p.vals 46).alloc (.cells q.vals 46)
  have hb2 := Blk.new (w.alloc (.cells p.vals 46)) q.vals 46
  simp only [World.size_alloc] at hb2
  have kb : Below w.heap.size w ((w.alloc (.cells p.vals 46)).alloc (.cells q.vals 46)) := ((Below.refl _ _).alloc (Nat.le_refl _) _).alloc (by simp) _
  have zb : ((w.alloc (.cells p.vals 46)).alloc (.cells q.vals 46)).heap.size = w.heap.size + 2 := by simp
  generalize (w.alloc (.cells p.vals 46)).alloc (.cells q.vals 46) = w1 at *
  have HB1 := Lib.hid hb1
  have HB2 := Lib.hid hb2
  clear hb1 hb2
  refine rg_start 6 ?_
  refine rg_belowB fun p' hB hx hne hC hbel => ?_
  refine rg_quiet 4 [0,2] hC ?_
  simp only [pickD, List.map_cons, List.map_nil, List.getD_cons_zero, List.getD_cons_succ]
  refine wpQuiet_loadAll Try.underlying46 params_size rfl rfl rfl (fun w' hc => HB1.out.drew.below (hB w' hc)) rfl ?_
  refine wpQuiet_loadAll Try.underlying46 params_size rfl rfl rfl (fun w' hc => HB2.out.drew.below (hB w' hc)) rfl ?_
  refine wpQuiet_nil ?_
  refine rg_act 1 ?_
  go_wp2_with (fail)
  refine (numbers_any p _ (HP.out.below kb.drew)).mono ?_
  rintro e w2 ⟨g, rfl, hS, kb2⟩
  go_wp2_with (fail)
  refine ⟨hbel _ kb2, ?_⟩
  refine rg_cut 3 ?_
  have k2 := below_on kb.drew kb2 (by simpa using kb.size)
  go_wp2_with (fail)
  refine (numbers_any q _ (HQ.out.below k2)).mono ?_
  rintro e w3 ⟨g', rfl, hS', kb3⟩
  have k3 := below_on k2 kb3 k2.size
  have HS := Lib.hid (hS.below kb3)
  have HS' := Lib.hid hS'
  have HB1' := Lib.hid ((HB1.out.drew.below kb2).below kb3)
  have HB2' := Lib.hid ((HB2.out.drew.below kb2).below kb3)
  clear hS hS' HB1 HB2 hbel hC hne hx hB
  go_wp2_with (fail)
  refine rg_below fun p2 hx hne hC hbel => ?_
  refine rg_quiet 0 [4,5] hC ?_
  simp only [pickD, List.map_cons, List.map_nil, List.getD_cons_zero, List.getD_cons_succ]; repeat (go_big_quiet_step (fail))
  refine wpQuiet_nil ?_
  refine rg_end ?_
  clear hbel hC hne hx
  go_wp2_with (fail)
  go_loopw [7] (fun i wr => ∃ k : Nat, i = .int .i64 k ∧ k ≤ 16 ∧ Below w3.heap.size w3 wr) (fun i _ => 16 - (intOf i).toNat)
  case atStart => exact ⟨0, rfl, by omega, Below.refl _ _⟩
  case round =>
    obtain ⟨k, rfl, hk, kr⟩ := hrel
    by_cases hlt : k < 16
    · obtain ⟨b1, off, h0, hb1, hc1, _⟩ := (HS.out.below kr).ints k hlt
      cases h0
      obtain ⟨b2, off, h0, hb2, hc2, _⟩ := (HS'.out.below kr).ints k (by simpa [numsL] using hlt)
      cases h0
      rw [numsL_at p k hlt, Nat.zero_add] at hc1
      rw [HA.out.nums, numsL_at p k hlt, Nat.zero_add] at hc2
      generalize idn p k = v at *
      go_wp2_with (fail)
      refine rg_start 9 ?_
      refine rg_same fun p hx hne hC => ?_
      refine rg_quiet 0 [0,1,2,3,4,5,6,7,8] hC ?_
      simp only [pickD, List.map_cons, List.map_nil, List.getD_cons_zero, List.getD_cons_succ]; repeat (go_big_quiet_step (fail))
      refine wpQuiet_nil ?_
      refine rg_end ?_
      go_wp2_with (fail)
      exact ⟨⟨k + 1, by go_num, by omega, kr.drew⟩, by simp [intOf]; omega⟩
    · have kw := below_on k3 kr k3.size
      have h10 := (HB1'.out.below kr).cell 0 (.slice p.oa p.O.length p.oc) rfl
      have h11 := (HB1'.out.below kr).cell 1 (.slice p.ca p.C.length p.cc) rfl
      have h1b := (HB1'.out.below kr).cell 11 (.bool p.has) rfl
      have h20 := (HB2'.out.below kr).cell 0 (.slice q.oa p.O.length q.oc) (by rw [← HA.out.O]; rfl)
      have h21 := (HB2'.out.below kr).cell 1 (.slice q.ca p.C.length q.cc) (by rw [← HA.out.C]; rfl)
      have h2b := (HB2'.out.below kr).cell 11 (.bool p.has) (by rw [← HA.out.has]; rfl)
      have u0 := (HB1'.out.below kr).cell 12 (.int .u8 p.t0) rfl
      have v0 := (HB2'.out.below kr).cell 12 (.int .u8 p.t0) (by rw [HA.out]; rfl)
      have u1 := (HB1'.out.below kr).cell 13 (.int .u8 p.t1) rfl
      have v1 := (HB2'.out.below kr).cell 13 (.int .u8 p.t1) (by rw [HA.out]; rfl)
      have u2 := (HB1'.out.below kr).cell 14 (.int .u8 p.t2) rfl
      have v2 := (HB2'.out.below kr).cell 14 (.int .u8 p.t2) (by rw [HA.out]; rfl)
      have u3 := (HB1'.out.below kr).cell 15 (.int .u8 p.t3) rfl
      have v3 := (HB2'.out.below kr).cell 15 (.int .u8 p.t3) (by rw [HA.out]; rfl)
      have u4 := (HB1'.out.below kr).cell 16 (.int .u8 p.t4) rfl
      have v4 := (HB2'.out.below kr).cell 16 (.int .u8 p.t4) (by rw [HA.out]; rfl)
      have u5 := (HB1'.out.below kr).cell 17 (.int .u8 p.t5) rfl
      have v5 := (HB2'.out.below kr).cell 17 (.int .u8 p.t5) (by rw [HA.out]; rfl)
      have u6 := (HB1'.out.below kr).cell 18 (.int .u8 p.t6) rfl
      have v6 := (HB2'.out.below kr).cell 18 (.int .u8 p.t6) (by rw [HA.out]; rfl)
      have u7 := (HB1'.out.below kr).cell 19 (.int .u8 p.t7) rfl
      have v7 := (HB2'.out.below kr).cell 19 (.int .u8 p.t7) (by rw [HA.out]; rfl)
      have u8 := (HB1'.out.below kr).cell 20 (.int .u8 p.t8) rfl
      have v8 := (HB2'.out.below kr).cell 20 (.int .u8 p.t8) (by rw [HA.out]; rfl)
      have u9 := (HB1'.out.below kr).cell 21 (.int .u8 p.t9) rfl
      have v9 := (HB2'.out.below kr).cell 21 (.int .u8 p.t9) (by rw [HA.out]; rfl)
      have u10 := (HB1'.out.below kr).cell 22 (.int .u8 p.t10) rfl
      have v10 := (HB2'.out.below kr).cell 22 (.int .u8 p.t10) (by rw [HA.out]; rfl)
      have u11 := (HB1'.out.below kr).cell 23 (.int .u8 p.t11) rfl
      have v11 := (HB2'.out.below kr).cell 23 (.int .u8 p.t11) (by rw [HA.out]; rfl)
      have u12 := (HB1'.out.below kr).cell 24 (.int .u8 p.t12) rfl
      have v12 := (HB2'.out.below kr).cell 24 (.int .u8 p.t12) (by rw [HA.out]; rfl)
      have u13 := (HB1'.out.below kr).cell 25 (.int .u8 p.t13) rfl
      have v13 := (HB2'.out.below kr).cell 25 (.int .u8 p.t13) (by rw [HA.out]; rfl)
      have u14 := (HB1'.out.below kr).cell 26 (.int .u8 p.t14) rfl
      have v14 := (HB2'.out.below kr).cell 26 (.int .u8 p.t14) (by rw [HA.out]; rfl)
      have u15 := (HB1'.out.below kr).cell 27 (.int .u8 p.t15) rfl
      have v15 := (HB2'.out.below kr).cell 27 (.int .u8 p.t15) (by rw [HA.out]; rfl)
      have HPO := Lib.hid (HP.out.below kw).o
      have HPC := Lib.hid (HP.out.below kw).c
      have HQO : Hid (Sl .u8 wr q.oa q.oc p.O) := Lib.hid (by have := (HQ.out.below kw).o; rw [HA.out.O] at this; exact this)
      have HQC : Hid (Sl .u8 wr q.ca q.cc p.C) := Lib.hid (by have := (HQ.out.below kw).c; rw [HA.out.C] at this; exact this)
      go_wp2_with (with_reducible refine Var.stop_bstr ?_)
      refine Stop.out ?_
      refine wpList_str Try.underlying22 Try.underlying5 Try.underlying9 rfl rfl rfl rfl HPO.out.ints ?_
      go_wp2_with (with_reducible refine Var.stop_bstr ?_)
      refine Stop.out ?_
      refine wpList_str Try.underlying22 Try.underlying5 Try.underlying9 rfl rfl rfl rfl HQO.out.ints ?_
      go_wp2_with (with_reducible refine Var.stop_eql ?_)
      refine Stop.out ?_
      refine wpList_same rfl rfl rfl rfl ?_
      go_wp2_with (with_reducible refine Var.stop_bstr_g ?_)
      refine Stop.out ?_
      refine wpList_str Try.underlying22 Try.underlying5 Try.underlying9 rfl rfl rfl rfl HPC.out.ints ?_
      go_wp2_with (with_reducible refine Var.stop_bstr_g ?_)
      refine Stop.out ?_
      refine wpList_str Try.underlying22 Try.underlying5 Try.underlying9 rfl rfl rfl rfl HQC.out.ints ?_
      go_wp2_with (with_reducible refine Var.stop_eql ?_)
      refine Stop.out ?_
      refine wpList_same rfl rfl rfl rfl ?_
      go_wp2_with (with_reducible refine stop_tok ?_)
      refine Stop.out ?_
      obtain ⟨ti, hti⟩ := tok_info
      refine wpList_eqArr Try.underlying44 hti tok_cells tok_plain Try.underlying5 rfl rfl rfl rfl p.tok p.tok rfl rfl rfl rfl ?_ ?_
      · go_simp
      · rw [decide_eq_true rfl]
        go_wp2_with (fail)
        go_returns
        exact ⟨rfl, kw⟩

end Par
end Go.Proofs.Ytjeolfnmheofeaa
