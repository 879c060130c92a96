/- ParamAppends. -/
import Derived.Test.YtjeolfnmheofeaaPar10
namespace Go.Proofs.Ytjeolfnmheofeaa
open Go.RowKit
set_option linter.unusedVariables false
namespace Par
open Var (Byte wf_byte bytes_et)

theorem paramB_bytes {p : PV} {w : World} (hp : p.ok w) : ∀ x ∈ paramB p, Byte x := by
  intro x hx
  obtain ⟨k, hk, hx⟩ := List.mem_flatMap.1 hx
  exact item_bytes hp k (by have := List.mem_range.1 hk; omega) x hx

set_option maxHeartbeats 8000000 in
set_option maxRecDepth 100000 in
theorem pappends_law (a : Option Addr) (cap : Nat) (B : List Int) (p : PV) (w : World) (hB : Sl .u8 w a cap B) (hp : p.ok w) (hm1 : B.length ≤ 140737488355328) (hm2 : p.O.length ≤ 140737488355328) (hm3 : p.C.length ≤ 140737488355328) :
    Calls Try.prog 6 #[.slice a B.length cap, .agg p.vals] w fun e w' => e = .returned (.bool true) ∧ Below w.heap.size w w' := by
  have HBB := Lib.hid (Var.sl_byte hB)
  have HB := Lib.hid hB
  have HP := Lib.hid hp
  clear hB hp
  go_enter Try.func6, Try.ntmps6
  have hb0 := Blk.new w p.vals 46
  have kb : Below w.heap.size w (w.alloc (.cells p.vals 46)) := (Below.refl _ _).alloc (Nat.le_refl _) _
  go_wp2_with (fail)
  refine (known_any _).mono ?_
  rintro e w1 ⟨rfl, hb1⟩
  have k1 := below_on kb hb1 kb.size
  have HB1 := Lib.hid (hb0.below hb1)
  have HP1 := Lib.hid (HP.out.below k1)
  have HS1 := Lib.hid (HB.out.below k1)
  have z1 := k1.size
  clear hb0 kb hb1
  have hc0 := HB1.out.cell 0 (.slice p.oa p.O.length p.oc) rfl
  have hc1 := HB1.out.cell 1 (.slice p.ca p.C.length p.cc) rfl
  by_cases hl : B.length + p.O.length + p.C.length ≤ 1000
  · by_cases hbig : p.O.length ≤ 1000 ∧ p.C.length ≤ 1000 ∧ B.length ≤ 1000
    · obtain ⟨hbo, hbc, hbb⟩ := hbig
      go_wp2_with (with_reducible refine stop_ldp ?_)
      refine Stop.out ?_
      refine wpList_loadAll Try.underlying46 params_size rfl rfl rfl HB1.out rfl ?_
      go_wp2_with (fail)
      refine (pappend_any a _ cap B p _ rfl (by omega) HS1.out HP1.out).mono ?_
      rintro e w2 ⟨hb2, hyes, hno⟩
      have k2 := below_on k1 hb2 z1
      have HB2 := Lib.hid (HB1.out.below hb2)
      have HP2 := Lib.hid (HP.out.below k2)
      cases hm : mayF p with
      | false =>
        obtain rfl := hno hm
        have HM := Lib.hid hm
        clear hyes hno hm
        go_wp2_with (with_reducible refine stop_ldp ?_)
        refine Stop.out ?_
        refine wpList_loadAll Try.underlying46 params_size rfl rfl rfl HB2.out rfl ?_
        go_wp2_with (fail)
        refine (rmay_any p _ HP2.out).mono ?_
        rw [HM.out]
        rintro e w3 ⟨rfl, hb3⟩
        have k3 := below_on k2 hb3 k2.size
        have HB3 := Lib.hid (HB2.out.below hb3)
        go_wp2_with (with_reducible refine stop_ldp ?_)
        refine Stop.out ?_
        refine wpList_loadAll Try.underlying46 params_size rfl rfl rfl HB3.out rfl ?_
        go_wp2_with (fail)
        refine (pmay_any p _ (HP.out.below k3)).mono ?_
        rw [HM.out]
        rintro e w4 ⟨rfl, hb4⟩
        go_wp2_with (fail)
        go_returns
        exact ⟨rfl, below_on k3 hb4 k3.size⟩
      | true =>
        obtain ⟨a2, c2, rfl, ho2⟩ := hyes hm
        have HM := Lib.hid hm
        have HW : Hid (∀ y ∈ B ++ paramB p, (Lit.int .u8 y).wf = true) := Lib.hid fun y hy => by
          rcases List.mem_append.1 hy with hy | hy
          · exact wf_byte (HBB.out y hy)
          · exact wf_byte (paramB_bytes HP.out y hy)
        have HS2 := Lib.hid (ho2.sl (L := B ++ paramB p) HW.out).2
        have hpl : (paramB p).length ≤ 640 := itemsTo_len HP.out hm 16
        clear hyes hno hm ho2
        go_wp2_with (with_reducible refine stop_ldp ?_)
        refine Stop.out ?_
        refine wpList_loadAll Try.underlying46 params_size rfl rfl rfl HB2.out rfl ?_
        go_wp2_with (fail)
        refine (rmay_any p _ HP2.out).mono ?_
        rw [HM.out]
        rintro e w3 ⟨rfl, hb3⟩
        have k3 := below_on k2 hb3 k2.size
        have HB3 := Lib.hid (HB2.out.below hb3)
        have HS3 := Lib.hid (HS2.out.below hb3)
        go_wp2_with (with_reducible refine stop_ldp ?_)
        refine Stop.out ?_
        refine wpList_loadAll Try.underlying46 params_size rfl rfl rfl HB3.out rfl ?_
        go_wp2_with (fail)
        refine (pmay_any p _ (HP.out.below k3)).mono ?_
        rw [HM.out]
        rintro e w4 ⟨rfl, hb4⟩
        have k4 := below_on k3 hb4 k3.size
        have HB4 := Lib.hid (HB3.out.below hb4)
        have HS4 := Lib.hid (HS3.out.below hb4)
        have HSB := Lib.hid (HB.out.below k4)
        have HP4 := Lib.hid (HP.out.below k4)
        go_wp2_with (fail)
        refine rg_start 14 ?_
        refine rg_belowB fun p' hB' hx hne hC hbel => ?_
        refine rg_quiet 9 [0,1,2,3,4] hC ?_
        simp only [pickD, List.map_cons, List.map_nil, List.getD_cons_zero, List.getD_cons_succ]
        go_big_quiet_step (fail)
        refine wpQuiet_str Try.underlying22 Try.underlying5 Try.underlying9 rfl rfl rfl (by simp) (fun w' hc => ((HS4.out.below (Below.refl _ _).drew).below (hB' w' hc)).ints) ?_
        refine wpQuiet_val rfl _ (fun w' _ => BigFrame.run_move _ rfl w') ?_
        refine wpQuiet_str Try.underlying22 Try.underlying5 Try.underlying9 rfl rfl rfl rfl (fun w' hc => ((HSB.out.below (Below.refl _ _).drew).below (hB' w' hc)).ints) ?_
        refine wpQuiet_loadAll Try.underlying46 params_size rfl rfl rfl (fun w' hc => HB4.out.drew.below (hB' w' hc)) rfl ?_
        refine wpQuiet_nil ?_
        refine rg_act 5 ?_
        go_wp2_with (fail)
        refine (rparam_any p _ (HP.out.below k4.drew) HM.out).mono ?_
        rintro e w7 ⟨hb7, a7, c7, rfl, ho7⟩
        go_wp2_with (fail)
        refine ⟨hbel _ hb7, ?_⟩
        have hs7 := (ho7.sl (L := paramB p) (fun x hx => wf_byte (paramB_bytes HP.out x hx))).2
        refine rg_act 6 ?_
        refine wpList_str Try.underlying22 Try.underlying5 Try.underlying9 rfl rfl rfl rfl hs7.ints ?_
        go_wp2_with (fail)
        refine ⟨hbel _ hb7, ?_⟩
        refine rg_quiet 0 [7,8,9,10,11,12,13] (hbel _ hb7) ?_
        simp only [pickD, List.map_cons, List.map_nil, List.getD_cons_zero, List.getD_cons_succ]
        refine wpQuiet_concat rfl rfl rfl rfl (by omega) ?_
        refine wpQuiet_same rfl rfl rfl rfl ?_
        simp only [Act.put, List.setIfInBounds_toArray, List.set_cons_zero, List.set_cons_succ]
        repeat (go_big_quiet_step (fail))
        refine wpQuiet_nil ?_
        refine rg_end ?_
        go_wp2_with (fail)
        go_returns
        exact ⟨rfl, below_on k4.drew hb7 k4.size⟩
    · omega
  · go_wp2_with (fail)
    go_returns
    exact ⟨rfl, k1⟩

end Par
end Go.Proofs.Ytjeolfnmheofeaa
