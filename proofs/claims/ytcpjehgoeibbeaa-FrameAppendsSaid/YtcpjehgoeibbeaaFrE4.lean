/- The document's May. -/
import Derived.Test.YtcpjehgoeibbeaaFrE3
namespace Go.Proofs.Ytcpjehgoeibbeaa
open Go.RowKit
set_option linter.unusedVariables false
namespace Frm
open Var
theorem may_bools : ∀ n g0 g1 g2 g3 g4 g5 g6 g7 k : Bool, (true && n && ((!g0) && (!g2) && (!g3) && (!g4) && (!g5) && (!g6) && (!g7) && (!g1)) && k) = (!(!n || g0 || g1 || g2 || g3 || g4 || g5 || g6 || g7) && k) := by decide
theorem le_not {x y : Int} : decide (x ≤ y) = !decide (y < x) := by
  by_cases h : x ≤ y
  · rw [decide_eq_true h, decide_eq_false (by omega)]; rfl
  · rw [decide_eq_false h, decide_eq_true (by omega)]; rfl
set_option maxHeartbeats 4000000 in
set_option maxRecDepth 100000 in
theorem rmay_any (p : FM) (w : World) (hp : p.ok w) (hd : p.f.data.length ≤ 140737488355328) (hc : p.f.cid.length ≤ 140737488355328) (ha : p.f.acks.length ≤ 140737488355328) (r : Bool) (hr : mayF p.f = r) :
    Calls Try.prog 16 #[.agg p.vals] w fun e w' => e = .returned (.bool r) ∧ Below w.heap.size w w' := by
  have hboxn := Blk.new w p.vals 36
  have hw1 := (Below.refl w.heap.size w).alloc (Nat.le_refl _) (.cells p.vals 36)
  have HP := Lib.hid hp
  have H16 := Lib.hid hp.fr.tok16
  have HR := Lib.hid hr
  clear hp hr
  by_cases his : isFr p.f.kind = true
  case neg =>
    have hr : r = false := by rw [← HR.out]; unfold mayF; rw [Bool.eq_false_iff.2 his]; rfl
    have hio : isFr p.f.kind = false := Bool.eq_false_iff.2 his
    subst hr
    clear his
    go_enter Try.func16, Try.ntmps16
    go_upto_region 1 with (fail)
    generalize w.alloc (.cells p.vals 36) = w1 at *
    have K1 := Lib.hid hw1
    have c0 := (FB.fc hboxn H16.out).c0
    have flt := (FB.fc hboxn H16.out).lt
    clear hboxn hw1
    go_wp2_with (fail)
    refine (form_any p.f.kind _).mono ?_
    rintro e w2 ⟨rfl, rfl⟩
    rw [hio]
    go_wp2_with (fail)
    go_returns
    exact ⟨rfl, K1.out⟩
  have hsp := spareB_plain his H16.out
  obtain ⟨g, hg⟩ : ∃ b, (!nothing (bareF p.f)) = b := ⟨_, rfl⟩
  rw [hg] at hsp
  have HG := Lib.hid hg
  have HSP := Lib.hid hsp
  have HIS := Lib.hid his
  have HFC := Lib.hid (fr_cases his)
  have HFL : Hid ((formS p.f.kind).length ≤ 1000) := Lib.hid (by
    rcases HFC.out with h | h | h | h | h | h | h | h | h | h | h | h | h | h | h | h | h | h | h | h | h | h | h | h <;> simp [h, formS])
  clear hsp hg
  go_enter Try.func16, Try.ntmps16
  go_upto_region 1 with (fail)
  generalize w.alloc (.cells p.vals 36) = w1 at *
  have FB1 := Lib.hid hboxn
  have K1 := Lib.hid hw1
  have fc := FB.fc hboxn H16.out
  have c0 := fc.c0
  have c1 := fc.c1
  have c2 := fc.c2
  have c3 := fc.c3
  have c4 := fc.c4
  have c5 := fc.c5
  have c7 := fc.c7
  have c8 := fc.c8
  have c25 := fc.c25
  have c26 := fc.c26
  have c27 := fc.c27
  have c28 := fc.c28
  have c29 := fc.c29
  have flt := fc.lt
  clear hboxn hw1 fc
  obtain ⟨q0, hq0⟩ : ∃ q, decide (4611686018427387903 < p.f.id) = q := ⟨_, rfl⟩
  obtain ⟨q1, hq1⟩ : ∃ q, decide (4611686018427387903 < p.f.off) = q := ⟨_, rfl⟩
  obtain ⟨q2, hq2⟩ : ∃ q, decide (4611686018427387903 < p.f.max) = q := ⟨_, rfl⟩
  obtain ⟨q3, hq3⟩ : ∃ q, decide (4611686018427387903 < p.f.code) = q := ⟨_, rfl⟩
  obtain ⟨q4, hq4⟩ : ∃ q, decide (4611686018427387903 < p.f.delay) = q := ⟨_, rfl⟩
  obtain ⟨q5, hq5⟩ : ∃ q, decide (4611686018427387903 < p.f.e0) = q := ⟨_, rfl⟩
  obtain ⟨q6, hq6⟩ : ∃ q, decide (4611686018427387903 < p.f.e1) = q := ⟨_, rfl⟩
  obtain ⟨q7, hq7⟩ : ∃ q, decide (4611686018427387903 < p.f.e2) = q := ⟨_, rfl⟩
  go_wp2_with (fail)
  refine (form_any p.f.kind _).mono ?_
  rintro e w2 ⟨rfl, rfl⟩
  rw [his]
  obtain ⟨s, hs⟩ : ∃ s, formS p.f.kind = s := ⟨_, rfl⟩
  rw [hs] at HSP HFL ⊢
  clear hs his
  go_wp2_with (with_reducible refine stop_ldf ?_)
  refine Stop.out ?_
  refine wpList_loadF rfl rfl p H16.out rfl FB1.out ?_
  go_wp2_with (fail)
  refine (spare_any p w1 (HP.out.below K1.out) hd hc ha s HFL.out g HSP.out).mono ?_
  rintro e w3 ⟨rfl, hb3⟩
  have K3 := Lib.hid (below_on K1.out hb3 K1.out.size)
  have FB3 := Lib.hid (FB1.out.below hb3)
  clear c0 c1 c2 c3 c4 c5 c7 c8 c25 c26 c27 c28 c29 flt
  have fc := FB.fc FB3.out H16.out
  have c0 := fc.c0
  have c1 := fc.c1
  have c2 := fc.c2
  have c3 := fc.c3
  have c4 := fc.c4
  have c5 := fc.c5
  have c7 := fc.c7
  have c8 := fc.c8
  have c25 := fc.c25
  have c26 := fc.c26
  have c27 := fc.c27
  have c28 := fc.c28
  have c29 := fc.c29
  have flt := fc.lt
  clear fc hb3
  dsimp only
  go_step
  refine wpList_join (α := Value × Value × Value × Value × Value × Value) 7 (fun x : Value × Value × Value × Value × Value × Value => [(19, x.1), (20, x.2.1), (21, x.2.2.1), (22, x.2.2.2.1), (23, x.2.2.2.2.1), (24, x.2.2.2.2.2), (25, .bool (g || q0))]) ?_ ?_
  rotate_left
  · intro R hR
    simp only [meet_laws, Prod.forall] at hR ⊢
    have hQ := Lib.hid hR
    clear hR
    cases g
    · go_wp2_with (fail)
      exact hQ.out _ _ _ _ _ _
    · go_wp2_with (fail)
      exact hQ.out _ _ _ _ _ _
  simp only [meet_laws, Prod.forall]
  intro x0_0 x0_1 x0_2 x0_3 x0_4 x0_5
  obtain ⟨v0, hv0⟩ : ∃ b, (g || q0) = b := ⟨_, rfl⟩
  have Gv0 := Lib.hid hv0
  rw [hv0]
  clear hv0
  refine wpList_join (α := Value × Value × Value × Value × Value) 6 (fun x : Value × Value × Value × Value × Value => [(26, x.1), (27, x.2.1), (28, x.2.2.1), (29, x.2.2.2.1), (30, x.2.2.2.2), (31, .bool (v0 || q1))]) ?_ ?_
  rotate_left
  · intro R hR
    simp only [meet_laws, Prod.forall] at hR ⊢
    have hQ := Lib.hid hR
    clear hR
    cases v0
    · go_wp2_with (fail)
      exact hQ.out _ _ _ _ _
    · go_wp2_with (fail)
      exact hQ.out _ _ _ _ _
  simp only [meet_laws, Prod.forall]
  intro x1_0 x1_1 x1_2 x1_3 x1_4
  obtain ⟨v1, hv1⟩ : ∃ b, (v0 || q1) = b := ⟨_, rfl⟩
  have Gv1 := Lib.hid hv1
  rw [hv1]
  clear hv1
  refine wpList_join (α := Value × Value × Value × Value × Value) 6 (fun x : Value × Value × Value × Value × Value => [(32, x.1), (33, x.2.1), (34, x.2.2.1), (35, x.2.2.2.1), (36, x.2.2.2.2), (37, .bool (v1 || q2))]) ?_ ?_
  rotate_left
  · intro R hR
    simp only [meet_laws, Prod.forall] at hR ⊢
    have hQ := Lib.hid hR
    clear hR
    cases v1
    · go_wp2_with (fail)
      exact hQ.out _ _ _ _ _
    · go_wp2_with (fail)
      exact hQ.out _ _ _ _ _
  simp only [meet_laws, Prod.forall]
  intro x2_0 x2_1 x2_2 x2_3 x2_4
  obtain ⟨v2, hv2⟩ : ∃ b, (v1 || q2) = b := ⟨_, rfl⟩
  have Gv2 := Lib.hid hv2
  rw [hv2]
  clear hv2
  refine wpList_join (α := Value × Value × Value × Value × Value) 6 (fun x : Value × Value × Value × Value × Value => [(38, x.1), (39, x.2.1), (40, x.2.2.1), (41, x.2.2.2.1), (42, x.2.2.2.2), (43, .bool (v2 || q3))]) ?_ ?_
  rotate_left
  · intro R hR
    simp only [meet_laws, Prod.forall] at hR ⊢
    have hQ := Lib.hid hR
    clear hR
    cases v2
    · go_wp2_with (fail)
      exact hQ.out _ _ _ _ _
    · go_wp2_with (fail)
      exact hQ.out _ _ _ _ _
  simp only [meet_laws, Prod.forall]
  intro x3_0 x3_1 x3_2 x3_3 x3_4
  obtain ⟨v3, hv3⟩ : ∃ b, (v2 || q3) = b := ⟨_, rfl⟩
  have Gv3 := Lib.hid hv3
  rw [hv3]
  clear hv3
  refine wpList_join (α := Value × Value × Value × Value × Value) 6 (fun x : Value × Value × Value × Value × Value => [(44, x.1), (45, x.2.1), (46, x.2.2.1), (47, x.2.2.2.1), (48, x.2.2.2.2), (49, .bool (v3 || q4))]) ?_ ?_
  rotate_left
  · intro R hR
    simp only [meet_laws, Prod.forall] at hR ⊢
    have hQ := Lib.hid hR
    clear hR
    cases v3
    · go_wp2_with (fail)
      exact hQ.out _ _ _ _ _
    · go_wp2_with (fail)
      exact hQ.out _ _ _ _ _
  simp only [meet_laws, Prod.forall]
  intro x4_0 x4_1 x4_2 x4_3 x4_4
  obtain ⟨v4, hv4⟩ : ∃ b, (v3 || q4) = b := ⟨_, rfl⟩
  have Gv4 := Lib.hid hv4
  rw [hv4]
  clear hv4
  refine wpList_join (α := Value × Value × Value × Value × Value × Value) 7 (fun x : Value × Value × Value × Value × Value × Value => [(50, x.1), (51, x.2.1), (52, x.2.2.1), (53, x.2.2.2.1), (54, x.2.2.2.2.1), (55, x.2.2.2.2.2), (56, .bool (v4 || q5))]) ?_ ?_
  rotate_left
  · intro R hR
    simp only [meet_laws, Prod.forall] at hR ⊢
    have hQ := Lib.hid hR
    clear hR
    cases v4
    · go_wp2_with (fail)
      exact hQ.out _ _ _ _ _ _
    · go_wp2_with (fail)
      exact hQ.out _ _ _ _ _ _
  simp only [meet_laws, Prod.forall]
  intro x5_0 x5_1 x5_2 x5_3 x5_4 x5_5
  obtain ⟨v5, hv5⟩ : ∃ b, (v4 || q5) = b := ⟨_, rfl⟩
  have Gv5 := Lib.hid hv5
  rw [hv5]
  clear hv5
  refine wpList_join (α := Value × Value × Value × Value × Value × Value) 7 (fun x : Value × Value × Value × Value × Value × Value => [(57, x.1), (58, x.2.1), (59, x.2.2.1), (60, x.2.2.2.1), (61, x.2.2.2.2.1), (62, x.2.2.2.2.2), (63, .bool (v5 || q6))]) ?_ ?_
  rotate_left
  · intro R hR
    simp only [meet_laws, Prod.forall] at hR ⊢
    have hQ := Lib.hid hR
    clear hR
    cases v5
    · go_wp2_with (fail)
      exact hQ.out _ _ _ _ _ _
    · go_wp2_with (fail)
      exact hQ.out _ _ _ _ _ _
  simp only [meet_laws, Prod.forall]
  intro x6_0 x6_1 x6_2 x6_3 x6_4 x6_5
  obtain ⟨v6, hv6⟩ : ∃ b, (v5 || q6) = b := ⟨_, rfl⟩
  have Gv6 := Lib.hid hv6
  rw [hv6]
  clear hv6
  refine wpList_join (α := Value × Value × Value × Value × Value × Value) 7 (fun x : Value × Value × Value × Value × Value × Value => [(64, x.1), (65, x.2.1), (66, x.2.2.1), (67, x.2.2.2.1), (68, x.2.2.2.2.1), (69, x.2.2.2.2.2), (70, .bool (v6 || q7))]) ?_ ?_
  rotate_left
  · intro R hR
    simp only [meet_laws, Prod.forall] at hR ⊢
    have hQ := Lib.hid hR
    clear hR
    cases v6
    · go_wp2_with (fail)
      exact hQ.out _ _ _ _ _ _
    · go_wp2_with (fail)
      exact hQ.out _ _ _ _ _ _
  simp only [meet_laws, Prod.forall]
  intro x7_0 x7_1 x7_2 x7_3 x7_4 x7_5
  obtain ⟨v7, hv7⟩ : ∃ b, (v6 || q7) = b := ⟨_, rfl⟩
  have Gv7 := Lib.hid hv7
  rw [hv7]
  clear hv7
  have HM : Hid (r = (!v7 && kindOk p.f)) := Lib.hid (by
    rw [← HR.out]
    unfold mayF smallOk
    simp only [le_not, show M62 = 4611686018427387903 from rfl]
    rw [HIS.out, hq0, hq1, hq2, hq3, hq4, hq5, hq6, hq7, ← Bool.not_not (nothing (bareF p.f)), HG.out]
    rw [may_bools]
    obtain rfl := Gv7.out
    obtain rfl := Gv6.out
    obtain rfl := Gv5.out
    obtain rfl := Gv4.out
    obtain rfl := Gv3.out
    obtain rfl := Gv2.out
    obtain rfl := Gv1.out
    obtain rfl := Gv0.out
    rw [Bool.not_not])
  clear hq0 hq1 hq2 hq3 hq4 hq5 hq6 hq7
  cases v7
  case true =>
    obtain rfl := HM.out
    go_wp2_with (fail)
    go_returns
    exact ⟨rfl, K3.out⟩
  have hM : r = kindOk p.f := HM.out
  go_upto_region 5 with (fail)
  obtain ⟨n, hn⟩ : ∃ n, p.f.data.length = n := ⟨_, rfl⟩
  obtain ⟨m, hm⟩ : ∃ m, p.f.cid.length = m := ⟨_, rfl⟩
  have HNN := Lib.hid hn
  have HMM := Lib.hid hm
  rw [hn] at hd c7
  rw [hm] at hc c8
  clear hn hm
  rcases HFC.out with hk | hk | hk | hk | hk | hk | hk | hk | hk | hk | hk | hk | hk | hk | hk | hk | hk | hk | hk | hk | hk | hk | hk | hk
  · obtain ⟨x1, hx1⟩ : ∃ b, decide (0 < p.f.n) = b := ⟨_, rfl⟩
    obtain ⟨x2, hx2⟩ : ∃ b, decide (p.f.n ≤ 65536) = b := ⟨_, rfl⟩
    have e1 : decide (1 ≤ p.f.n) = x1 := by rw [← hx1]; exact decide_eq_decide.2 (by omega)
    have E1 := Lib.hid e1
    clear e1
    cases x1
    · go_wp2_with (fail)
      go_returns
      refine ⟨congrArg (fun b => Ending.returned (Value.bool b)) (?_ : _ = r), K3.out⟩
      rw [hM, kindOk, if_pos hk, E1.out, hx2]
      rfl
    · go_wp2_with (fail)
      go_returns
      refine ⟨congrArg (fun b => Ending.returned (Value.bool b)) (?_ : _ = r), K3.out⟩
      rw [hM, kindOk, if_pos hk, E1.out, hx2]
      rfl
  · go_wp2_with (fail)
    go_returns
    refine ⟨congrArg (fun b => Ending.returned (Value.bool b)) (?_ : _ = r), K3.out⟩
    rw [hM, kindOk, if_neg (by omega), if_neg (by omega), if_neg (by omega), if_neg (by omega), if_neg (by omega), if_neg (by omega), if_neg (by omega)]
  · go_wp2_with (fail)
    refine (rranges_any p.aa p.f.acks.length p.ac p.f.acks (acksOk p.f.acks) _ rfl (HP.out.below K3.out).a rfl).mono ?_
    rintro e w4 ⟨rfl, hb4⟩
    have K4 := Lib.hid (below_on K3.out hb4 K3.out.size)
    go_wp2_with (fail)
    go_returns
    refine ⟨congrArg (fun b => Ending.returned (Value.bool b)) (?_ : _ = r), K4.out⟩
    rw [hM, kindOk, if_neg (by omega), if_pos (by omega)]
  · go_wp2_with (fail)
    refine (rranges_any p.aa p.f.acks.length p.ac p.f.acks (acksOk p.f.acks) _ rfl (HP.out.below K3.out).a rfl).mono ?_
    rintro e w4 ⟨rfl, hb4⟩
    have K4 := Lib.hid (below_on K3.out hb4 K3.out.size)
    go_wp2_with (fail)
    go_returns
    refine ⟨congrArg (fun b => Ending.returned (Value.bool b)) (?_ : _ = r), K4.out⟩
    rw [hM, kindOk, if_neg (by omega), if_pos (by omega)]
  · go_wp2_with (fail)
    go_returns
    refine ⟨congrArg (fun b => Ending.returned (Value.bool b)) (?_ : _ = r), K3.out⟩
    rw [hM, kindOk, if_neg (by omega), if_neg (by omega), if_neg (by omega), if_neg (by omega), if_neg (by omega), if_neg (by omega), if_neg (by omega)]
  · go_wp2_with (fail)
    go_returns
    refine ⟨congrArg (fun b => Ending.returned (Value.bool b)) (?_ : _ = r), K3.out⟩
    rw [hM, kindOk, if_neg (by omega), if_neg (by omega), if_neg (by omega), if_neg (by omega), if_neg (by omega), if_neg (by omega), if_neg (by omega)]
  · have h1 : decide ((n : Int) ≤ 4611686018427387903) = true := by simp; omega
    go_wp2_with (fail)
    go_returns
    refine ⟨congrArg (fun b => Ending.returned (Value.bool b)) (?_ : _ = r), K3.out⟩
    rw [hM, kindOk, if_neg (by omega), if_neg (by omega), if_pos (by omega), HNN.out]
    simp only [M62]
    exact decide_eq_decide.2 (by omega)
  · go_wp2_with (fail)
    go_returns
    refine ⟨congrArg (fun b => Ending.returned (Value.bool b)) (?_ : _ = r), K3.out⟩
    rw [hM, kindOk, if_neg (by omega), if_neg (by omega), if_neg (by omega), if_pos (by omega), HNN.out]
  · have h1 : decide ((n : Int) ≤ 4611686018427387903) = true := by simp; omega
    go_wp2_with (fail)
    go_returns
    refine ⟨congrArg (fun b => Ending.returned (Value.bool b)) (?_ : _ = r), K3.out⟩
    rw [hM, kindOk, if_neg (by omega), if_neg (by omega), if_pos (by omega), HNN.out]
    simp only [M62]
    exact decide_eq_decide.2 (by omega)
  · go_wp2_with (fail)
    go_returns
    refine ⟨congrArg (fun b => Ending.returned (Value.bool b)) (?_ : _ = r), K3.out⟩
    rw [hM, kindOk, if_neg (by omega), if_neg (by omega), if_neg (by omega), if_neg (by omega), if_neg (by omega), if_neg (by omega), if_neg (by omega)]
  · go_wp2_with (fail)
    go_returns
    refine ⟨congrArg (fun b => Ending.returned (Value.bool b)) (?_ : _ = r), K3.out⟩
    rw [hM, kindOk, if_neg (by omega), if_neg (by omega), if_neg (by omega), if_neg (by omega), if_neg (by omega), if_neg (by omega), if_neg (by omega)]
  · go_wp2_with (fail)
    go_returns
    refine ⟨congrArg (fun b => Ending.returned (Value.bool b)) (?_ : _ = r), K3.out⟩
    rw [hM, kindOk, if_neg (by omega), if_neg (by omega), if_neg (by omega), if_neg (by omega), if_neg (by omega), if_neg (by omega), if_pos (by omega)]
  · go_wp2_with (fail)
    go_returns
    refine ⟨congrArg (fun b => Ending.returned (Value.bool b)) (?_ : _ = r), K3.out⟩
    rw [hM, kindOk, if_neg (by omega), if_neg (by omega), if_neg (by omega), if_neg (by omega), if_neg (by omega), if_neg (by omega), if_pos (by omega)]
  · go_wp2_with (fail)
    go_returns
    refine ⟨congrArg (fun b => Ending.returned (Value.bool b)) (?_ : _ = r), K3.out⟩
    rw [hM, kindOk, if_neg (by omega), if_neg (by omega), if_neg (by omega), if_neg (by omega), if_neg (by omega), if_neg (by omega), if_neg (by omega)]
  · go_wp2_with (fail)
    go_returns
    refine ⟨congrArg (fun b => Ending.returned (Value.bool b)) (?_ : _ = r), K3.out⟩
    rw [hM, kindOk, if_neg (by omega), if_neg (by omega), if_neg (by omega), if_neg (by omega), if_neg (by omega), if_neg (by omega), if_neg (by omega)]
  · go_wp2_with (fail)
    go_returns
    refine ⟨congrArg (fun b => Ending.returned (Value.bool b)) (?_ : _ = r), K3.out⟩
    rw [hM, kindOk, if_neg (by omega), if_neg (by omega), if_neg (by omega), if_neg (by omega), if_neg (by omega), if_neg (by omega), if_pos (by omega)]
  · go_wp2_with (fail)
    go_returns
    refine ⟨congrArg (fun b => Ending.returned (Value.bool b)) (?_ : _ = r), K3.out⟩
    rw [hM, kindOk, if_neg (by omega), if_neg (by omega), if_neg (by omega), if_neg (by omega), if_neg (by omega), if_neg (by omega), if_pos (by omega)]
  · obtain ⟨x1, hx1⟩ : ∃ b, decide (0 < m) = b := ⟨_, rfl⟩
    obtain ⟨x2, hx2⟩ : ∃ b, decide (m ≤ 20) = b := ⟨_, rfl⟩
    have hx2i : decide ((m : Int) ≤ 20) = x2 := by rw [← hx2]; exact decide_eq_decide.2 (by omega)
    obtain ⟨x3, hx3⟩ : ∃ b, decide (p.f.max ≤ p.f.id) = b := ⟨_, rfl⟩
    have e1 : decide (1 ≤ m) = x1 := by rw [← hx1]; exact decide_eq_decide.2 (by omega)
    have E1 := Lib.hid e1
    clear e1
    cases x1
    · go_wp2_with (fail)
      go_returns
      refine ⟨congrArg (fun b => Ending.returned (Value.bool b)) (?_ : _ = r), K3.out⟩
      rw [hM, kindOk, if_neg (by omega), if_neg (by omega), if_neg (by omega), if_neg (by omega), if_pos (by omega), HMM.out, E1.out, hx2, hx3]
      rfl
    · cases x2
      · go_wp2_with (fail)
        go_returns
        refine ⟨congrArg (fun b => Ending.returned (Value.bool b)) (?_ : _ = r), K3.out⟩
        rw [hM, kindOk, if_neg (by omega), if_neg (by omega), if_neg (by omega), if_neg (by omega), if_pos (by omega), HMM.out, E1.out, hx2, hx3]
        rfl
      · go_wp2_with (fail)
        go_returns
        refine ⟨congrArg (fun b => Ending.returned (Value.bool b)) (?_ : _ = r), K3.out⟩
        rw [hM, kindOk, if_neg (by omega), if_neg (by omega), if_neg (by omega), if_neg (by omega), if_pos (by omega), HMM.out, E1.out, hx2, hx3]
        rfl
  · go_wp2_with (fail)
    go_returns
    refine ⟨congrArg (fun b => Ending.returned (Value.bool b)) (?_ : _ = r), K3.out⟩
    rw [hM, kindOk, if_neg (by omega), if_neg (by omega), if_neg (by omega), if_neg (by omega), if_neg (by omega), if_neg (by omega), if_neg (by omega)]
  · go_wp2_with (fail)
    go_returns
    refine ⟨congrArg (fun b => Ending.returned (Value.bool b)) (?_ : _ = r), K3.out⟩
    rw [hM, kindOk, if_neg (by omega), if_neg (by omega), if_neg (by omega), if_neg (by omega), if_neg (by omega), if_pos (by omega), HNN.out, Bool.eq_iff_iff, beq_iff_eq, decide_eq_true_eq]
    omega
  · go_wp2_with (fail)
    go_returns
    refine ⟨congrArg (fun b => Ending.returned (Value.bool b)) (?_ : _ = r), K3.out⟩
    rw [hM, kindOk, if_neg (by omega), if_neg (by omega), if_neg (by omega), if_neg (by omega), if_neg (by omega), if_pos (by omega), HNN.out, Bool.eq_iff_iff, beq_iff_eq, decide_eq_true_eq]
    omega
  · go_wp2_with (fail)
    go_returns
    refine ⟨congrArg (fun b => Ending.returned (Value.bool b)) (?_ : _ = r), K3.out⟩
    rw [hM, kindOk, if_neg (by omega), if_neg (by omega), if_neg (by omega), if_neg (by omega), if_neg (by omega), if_neg (by omega), if_neg (by omega)]
  · go_wp2_with (fail)
    go_returns
    refine ⟨congrArg (fun b => Ending.returned (Value.bool b)) (?_ : _ = r), K3.out⟩
    rw [hM, kindOk, if_neg (by omega), if_neg (by omega), if_neg (by omega), if_neg (by omega), if_neg (by omega), if_neg (by omega), if_neg (by omega)]
  · go_wp2_with (fail)
    go_returns
    refine ⟨congrArg (fun b => Ending.returned (Value.bool b)) (?_ : _ = r), K3.out⟩
    rw [hM, kindOk, if_neg (by omega), if_neg (by omega), if_neg (by omega), if_neg (by omega), if_neg (by omega), if_neg (by omega), if_neg (by omega)]
end Frm
end Go.Proofs.Ytcpjehgoeibbeaa
