/- SpanMakes: the law walked. -/
import Derived.Test.YtidfimpchbkppaaSpW10
import Derived.Test.YtidfimpchbkppaaRf14
namespace Go.Proofs.Ytidfimpchbkppaa
open Go.RowKit
set_option linter.unusedVariables false

theorem sp_mixed : Try.prog.follows .mixedOrders = true := by kernel_rfl
theorem sp_goes : Rf.runs Try.prog 15 100000 = true := by kernel_rfl
theorem spworks_any (w : World) : Calls Try.prog 15 #[] w fun e w' => e = .returned (.bool true) ∧ Below w.heap.size w w' := Rf.runs_true sp_mixed sp_goes w

set_option maxRecDepth 100000 in
set_option maxHeartbeats 4000000 in
theorem makes_law (a b : Option Addr) (cap cap' : Nat) (A B : List Rg) (w : World) (hA : Rs w a cap A) (hB : Rs w b cap' B) :
    Calls Try.prog 3 #[.slice a A.length cap, .slice b B.length cap'] w fun e w' => e = .returned (.bool true) ∧ Below w.heap.size w w' := by
  have hlA := hA.len
  have hlB := hB.len
  unfold maxLen at hlA hlB
  have HA := Lib.hid hA
  have HB := Lib.hid hB
  clear hA hB
  obtain ⟨nA, hnA⟩ : ∃ n, A.length = n := ⟨_, rfl⟩
  obtain ⟨nB, hnB⟩ : ∃ n, B.length = n := ⟨_, rfl⟩
  rw [hnA] at hlA ⊢
  rw [hnB] at hlB ⊢
  have NA := Lib.hid hnA
  have NB := Lib.hid hnB
  clear hnA hnB
  by_cases h1 : 60 < nA
  · go_enter Try.func3, Try.ntmps3
    go_wp2_with (fail)
    refine (spworks_any w).mono ?_
    rintro e w1 ⟨rfl, hb⟩
    go_wp2_with (fail)
    go_returns
    exact ⟨rfl, hb⟩
  by_cases h2 : 60 < nB
  · go_enter Try.func3, Try.ntmps3
    go_wp2_with (fail)
    refine (spworks_any w).mono ?_
    rintro e w1 ⟨rfl, hb⟩
    go_wp2_with (fail)
    go_returns
    exact ⟨rfl, hb⟩
  have lA : Hid (A.length ≤ 60) := Lib.hid (by have := NA.out; omega)
  have lB : Hid (B.length ≤ 60) := Lib.hid (by have := NB.out; omega)
  go_enter Try.func3, Try.ntmps3
  go_wp2_with (fail)
  have B0 : Hid (Below w.heap.size w w) := Lib.hid (Below.refl _ _)
  refine (add_any a b _ _ cap cap' A B w NA.out.symm NB.out.symm (HA.out.below B0.out) (HB.out.below B0.out) (by have := lA.out; omega) (by have := lB.out; omega)).mono ?_
  rintro e x0 ⟨hb1, a0, c0, M0, rfl, ho1, hM1, hn1, hl1⟩
  have R0 := Lib.hid (ho1.rs hM1).2
  have N0 := Lib.hid (hn1.congr (q := fun n => opR 0 (inB A n) (inB B n) = true) (fun n => by rw [memR_append, ← inB_iff, ← inB_iff]; simp [opR]))
  have X0 := Lib.hid (below_on B0.out hb1 B0.out.size)
  clear ho1 hM1 hn1 hb1 hl1
  go_wp2_with (fail)
  refine (make_any 0 (by omega) a b _ _ cap cap' A B x0 NA.out.symm NB.out.symm (HA.out.below X0.out) (HB.out.below X0.out) (by have := lA.out; omega) (by have := lB.out; omega)).mono ?_
  rintro e y0 ⟨hb1, b0, d0, K0, rfl, hK, hl1, hn1⟩
  obtain rfl : M0 = K0 := N0.out.unique hn1
  have S0 := Lib.hid hK
  have R0' := Lib.hid (R0.out.below hb1)
  have Y0 := Lib.hid (below_on X0.out hb1 X0.out.size)
  clear hb1 hK hl1 hn1 R0 N0
  go_wp2_with (fail)
  refine (same_any a0 b0 _ _ c0 d0 M0 M0 y0 rfl rfl R0'.out S0.out).mono ?_
  rintro e z0 ⟨hb1, rfl⟩
  have Z0 := Lib.hid (below_on Y0.out hb1 Y0.out.size)
  clear hb1 R0' S0
  simp only [decide_true]
  go_wp2_with (fail)
  refine (cut_any a b _ _ cap cap' A B z0 NA.out.symm NB.out.symm (HA.out.below Z0.out) (HB.out.below Z0.out) (by have := lA.out; omega) (by have := lB.out; omega)).mono ?_
  rintro e x1 ⟨hb1, a1, c1, M1, rfl, ho1, hM1, hn1, hl1⟩
  have R1 := Lib.hid (ho1.rs hM1).2
  have N1 := Lib.hid (hn1.congr (q := fun n => opR 1 (inB A n) (inB B n) = true) (fun n => by simp [opR]))
  have X1 := Lib.hid (below_on Z0.out hb1 Z0.out.size)
  clear ho1 hM1 hn1 hb1 hl1
  go_wp2_with (fail)
  refine (make_any 1 (by omega) a b _ _ cap cap' A B x1 NA.out.symm NB.out.symm (HA.out.below X1.out) (HB.out.below X1.out) (by have := lA.out; omega) (by have := lB.out; omega)).mono ?_
  rintro e y1 ⟨hb1, b1, d1, K1, rfl, hK, hl1, hn1⟩
  obtain rfl : M1 = K1 := N1.out.unique hn1
  have S1 := Lib.hid hK
  have R1' := Lib.hid (R1.out.below hb1)
  have Y1 := Lib.hid (below_on X1.out hb1 X1.out.size)
  clear hb1 hK hl1 hn1 R1 N1
  go_wp2_with (fail)
  refine (same_any a1 b1 _ _ c1 d1 M1 M1 y1 rfl rfl R1'.out S1.out).mono ?_
  rintro e z1 ⟨hb1, rfl⟩
  have Z1 := Lib.hid (below_on Y1.out hb1 Y1.out.size)
  clear hb1 R1' S1
  simp only [decide_true]
  go_wp2_with (fail)
  refine (both_any a b _ _ cap cap' A B z1 NA.out.symm NB.out.symm (HA.out.below Z1.out) (HB.out.below Z1.out) (by have := lA.out; omega) (by have := lB.out; omega)).mono ?_
  rintro e x2 ⟨hb1, a2, c2, M2, rfl, ho1, hM1, hn1, hl1⟩
  have R2 := Lib.hid (ho1.rs hM1).2
  have N2 := Lib.hid (hn1.congr (q := fun n => opR 2 (inB A n) (inB B n) = true) (fun n => by simp [opR]))
  have X2 := Lib.hid (below_on Z1.out hb1 Z1.out.size)
  clear ho1 hM1 hn1 hb1 hl1
  go_wp2_with (fail)
  refine (make_any 2 (by omega) a b _ _ cap cap' A B x2 NA.out.symm NB.out.symm (HA.out.below X2.out) (HB.out.below X2.out) (by have := lA.out; omega) (by have := lB.out; omega)).mono ?_
  rintro e y2 ⟨hb1, b2, d2, K2, rfl, hK, hl1, hn1⟩
  obtain rfl : M2 = K2 := N2.out.unique hn1
  have S2 := Lib.hid hK
  have R2' := Lib.hid (R2.out.below hb1)
  have Y2 := Lib.hid (below_on X2.out hb1 X2.out.size)
  clear hb1 hK hl1 hn1 R2 N2
  go_wp2_with (fail)
  refine (same_any a2 b2 _ _ c2 d2 M2 M2 y2 rfl rfl R2'.out S2.out).mono ?_
  rintro e z2 ⟨hb1, rfl⟩
  have Z2 := Lib.hid (below_on Y2.out hb1 Y2.out.size)
  clear hb1 R2' S2
  simp only [decide_true]
  go_wp2_with (fail)
  refine (neat_any a _ cap A z2 NA.out.symm (HA.out.below Z2.out)).mono ?_
  rintro e u1 ⟨hb1, v, rfl, hv⟩
  have U1 := Lib.hid (below_on Z2.out hb1 Z2.out.size)
  have HV := Lib.hid hv
  clear hb1 hv
  go_wp2_with (fail)
  refine (rneat_any a _ cap A u1 NA.out.symm (HA.out.below U1.out) (by have := lA.out; omega)).mono ?_
  rintro e u2 ⟨hb1, M, hM, rfl⟩
  have U2 := Lib.hid (below_on U1.out hb1 U1.out.size)
  have hv : decide (A = M) = v := by
    rw [Bool.eq_iff_iff, HV.out]
    simp only [decide_eq_true_eq]
    exact ⟨fun h => by rw [h]; exact hM.neat, fun h => IsNf.unique ⟨h, fun n => Iff.rfl⟩ hM⟩
  simp only [hv]
  clear hb1 hM hv HV
  go_wp2_with (fail)
  refine (count_any a _ cap A u2 NA.out.symm (HA.out.below U2.out) (by have := lA.out; omega)).mono ?_
  rintro e u3 ⟨hb1, M1, hM1, _, rfl⟩
  have U3 := Lib.hid (below_on U2.out hb1 U2.out.size)
  have HM1 := Lib.hid hM1
  clear hb1 hM1
  go_wp2_with (fail)
  refine (rcount_any a _ cap A u3 NA.out.symm (HA.out.below U3.out) (by have := lA.out; omega)).mono ?_
  rintro e u4 ⟨hb1, M2, hM2, rfl⟩
  obtain rfl : M1 = M2 := HM1.out.unique hM2
  have U4 := Lib.hid (below_on U3.out hb1 U3.out.size)
  clear hb1 hM2 HM1
  go_wp2_with (fail)
  refine (spworks_any u4).mono ?_
  rintro e u5 ⟨rfl, hb1⟩
  have U5 := Lib.hid (below_on U4.out hb1 U4.out.size)
  clear hb1
  go_wp2_with (fail)
  go_returns
  exact ⟨rfl, U5.out⟩

set_option maxRecDepth 100000 in
theorem walk_SpanMakes (H : Type) (enc : TypeId × Value → H) (w : World) (base : Nat) (v0 : Value) (d0 : DataW H) (p0 : List MemPlace) (v1 : Value) (d1 : DataW H) (p1 : List MemPlace)
    (o0 : Value.okWide Try.prog w .any base 22 v0) (h0 : DataW.Trod enc Try.prog w 0 (fun _ => true) true 22 v0 d0 p0)
    (o1 : Value.okWide Try.prog w .any base 22 v1) (h1 : DataW.Trod enc Try.prog w 0 (fun _ => true) true 22 v1 d1 p1) :
    Calls Try.prog 3 #[v0, v1] w fun e w' => e = .returned (.bool true) ∧ Below w.heap.size w w' := by
  obtain ⟨a, L, cap, rfl, hS⟩ := open_rgs o0 h0
  obtain ⟨c, N, ccap, rfl, hN⟩ := open_rgs o1 h1
  exact makes_law a c cap ccap L N w hS hN
end Go.Proofs.Ytidfimpchbkppaa
