/- Statements of layer 13: the walks. -/
import Derived.Test.YtnnlejllhmhmmaaRtt
namespace Go.Proofs.Ytnnlejllhmhmmaa
open Go.RowKit
set_option linter.unusedVariables false
namespace Rtt

def zero : RS := ⟨false, 0, 0, 0, 0⟩
theorem zero_ok : zero.ok := by simp [RS.ok, zero]

set_option maxHeartbeats 400000 in
theorem works_any (w : World) : Calls Try.prog 9 #[] w fun e w' => e = .returned (.bool true) ∧ Below w.heap.size w w' := by
  go_enter Try.func9, Try.ntmps9
  go_wp2_with (fail)
  refine (sample_any _ zero 1000 0 _ (by omega) (by omega) zero_ok (Blk.new _ _ _)).mono ?_
  rintro e w1 ⟨rfl, hb1, ho1⟩
  have e1 : sampleF zero 1000 0 = ⟨true, 1000, 1000, 1000, 500⟩ := rfl
  rw [e1] at hb1
  clear e1
  have hc := hb1.all
  simp only [cellsAt, Nat.reduceAdd, and_true, Nat.zero_add] at hc
  obtain ⟨⟨c0, f0⟩, ⟨c1, f1⟩, ⟨c2, f2⟩, ⟨c3, f3⟩, ⟨c4, f4⟩⟩ := hc
  go_wp2_with (fail)
  refine (sample_any _ ⟨true, 1000, 1000, 1000, 500⟩ 1800 500 _ (by omega) (by omega) (by simp [RS.ok]) hb1).mono ?_
  rintro e w2 ⟨rfl, hb2, ho2⟩
  have e2 : sampleF ⟨true, 1000, 1000, 1000, 500⟩ 1800 500 = ⟨true, 1800, 1000, 1037, 450⟩ := rfl
  rw [e2] at hb2
  clear e2 c0 f0 c1 f1 c2 f2 c3 f3 c4 f4
  have hc := hb2.all
  simp only [cellsAt, Nat.reduceAdd, and_true, Nat.zero_add] at hc
  obtain ⟨⟨c0, f0⟩, ⟨c1, f1⟩, ⟨c2, f2⟩, ⟨c3, f3⟩, ⟨c4, f4⟩⟩ := hc
  have z1 : w.heap.size < w1.heap.size := hb1.lt
  have z2 : w.heap.size < w2.heap.size := hb2.lt
  have k1 : Below w.heap.size w w1 := below_onto ((Below.refl _ _).alloc (Nat.le_refl _) _) ho1 (by simp) (by intro k hk; omega)
  have k2 : Below w.heap.size w w2 := below_onto k1 ho2 (by omega) (by intro k hk; omega)
  have ok2 : RS.ok ⟨true, 1800, 1000, 1037, 450⟩ := by simp [RS.ok]
  go_wp2_with (fail)
  refine (pto_any _ ⟨true, 1800, 1000, 1037, 450⟩ 25 0 _ (by omega) (by omega) (by omega) ok2 hb2).mono ?_
  rintro e w3 ⟨rfl, hb3⟩
  have e3 : ptoF ⟨true, 1800, 1000, 1037, 450⟩ 25 0 = 2862 := rfl
  rw [e3]
  clear e3
  have z3 := hb3.size
  have k3 := below_on k2 hb3 (by omega)
  go_wp2_with (fail)
  refine (pto_any _ ⟨true, 1800, 1000, 1037, 450⟩ 25 2 _ (by omega) (by omega) (by omega) ok2 (hb2.below hb3)).mono ?_
  rintro e w4 ⟨rfl, hb4⟩
  have e4 : ptoF ⟨true, 1800, 1000, 1037, 450⟩ 25 2 = 11448 := rfl
  rw [e4]
  clear e4
  have z4 := hb4.size
  have k4 := below_on k3 hb4 (by omega)
  go_wp2_with (fail)
  refine (loss_any _ ⟨true, 1800, 1000, 1037, 450⟩ _ ok2 ((hb2.below hb3).below hb4)).mono ?_
  rintro e w5 ⟨rfl, hb5⟩
  have e5 : lossF ⟨true, 1800, 1000, 1037, 450⟩ = 2025 := rfl
  rw [e5]
  clear e5
  have k5 := below_on k4 hb5 (by omega)
  go_wp2_with (fail)
  go_returns
  exact ⟨rfl, k5⟩

theorem pto_nil (w : World) : Calls Try.prog 10 #[.pointer none, .int .u64 0, .int .u64 0] w fun e w' => e = .returned (.int .u64 999000) ∧ Below w.heap.size w w' := by
  go_enter Try.func10, Try.ntmps10
  go_wp2
  refine wp_loop_once ?_
  go_wp2
  go_returns
  exact ⟨rfl, by go_grown⟩
theorem loss_nil (w : World) : Calls Try.prog 11 #[.pointer none] w fun e w' => e = .returned (.int .u64 374625) ∧ Below w.heap.size w w' := by
  go_enter Try.func11, Try.ntmps11
  go_wp2
  go_returns
  exact ⟨rfl, by go_grown⟩

theorem ptoLoop_top : ∀ (t : Nat) (n : Int), 1 ≤ n → n ≤ 1099511627776 → 40 ≤ t → ptoLoop t n = 1099511627776 := by
  have key : ∀ (k t : Nat) (n : Int), n ≤ 1099511627776 → 1099511627776 ≤ n * 2 ^ k → k ≤ t → ptoLoop t n = 1099511627776 := by
    intro k
    induction k with
    | zero =>
      intro t n h1 h2 _
      have : n = 1099511627776 := by simp at h2; omega
      subst this
      cases t with
      | zero => rfl
      | succ t => rw [ptoLoop, if_neg (by omega)]
    | succ k ih =>
      intro t n h1 h2 h3
      cases t with
      | zero => omega
      | succ t =>
        rw [ptoLoop]
        split
        · refine ih t _ (by omega) ?_ (by omega)
          rw [Int.pow_succ] at h2
          by_cases h : 2 * n ≤ 1099511627776
          · rw [show min (2 * n) 1099511627776 = 2 * n from by omega]
            have : 2 * n * 2 ^ k = n * (2 ^ k * 2) := by rw [Int.mul_comm 2 n, Int.mul_assoc, Int.mul_comm 2]
            omega
          · rw [show min (2 * n) 1099511627776 = 1099511627776 from by omega]
            have : (1 : Int) ≤ 2 ^ k := Int.pow_pos (by omega)
            omega
        · omega
  intro t n h1 h2 h3
  exact key 40 t n h2 (by have : (2:Int)^40 = 1099511627776 := by decide
                          rw [this]; omega) h3

set_option maxHeartbeats 400000 in
theorem known_law (w : World) : Calls Try.prog 3 #[] w fun e w' => e = .returned (.bool true) ∧ Below w.heap.size w w' := by
  go_enter Try.func3, Try.ntmps3
  go_wp2_with (fail)
  refine (sample_nil _ _ _).mono ?_
  rintro e w1 ⟨rfl, rfl⟩
  go_wp2_with (fail)
  refine (works_any _).mono ?_
  rintro e w1 ⟨rfl, hb1⟩
  have z1 := hb1.size
  simp only [World.size_alloc] at z1
  have k1 : Below w.heap.size w w1 := below_on ((Below.refl _ _).alloc (Nat.le_refl _) _) hb1 (by simp)
  have hz := (Blk.new w #[.bool false, .int .u64 0, .int .u64 0, .int .u64 0, .int .u64 0] 28).below hb1
  go_wp2_with (fail)
  refine (pto_nil _).mono ?_
  rintro e w2 ⟨rfl, hb2⟩
  have z2 := hb2.size
  have k2 := below_on k1 hb2 (by omega)
  go_wp2_with (fail)
  refine (pto_any _ zero 0 0 _ (by omega) (by omega) (by omega) zero_ok (hz.below hb2)).mono ?_
  rintro e w3 ⟨rfl, hb3⟩
  have e3 : ptoF zero 0 0 = 999000 := rfl
  rw [e3]
  clear e3
  have z3 := hb3.size
  have k3 := below_on k2 hb3 (by omega)
  go_wp2_with (fail)
  refine (loss_nil _).mono ?_
  rintro e w4 ⟨rfl, hb4⟩
  have z4 := hb4.size
  have k4 := below_on k3 hb4 (by omega)
  go_wp2_with (fail)
  refine (pto_any _ zero 0 9223372036854775808 _ (by omega) (by omega) (by omega) zero_ok (((hz.below hb2).below hb3).below hb4)).mono ?_
  rintro e w5 ⟨rfl, hb5⟩
  have e5 : ptoF zero 0 9223372036854775808 = 1099511627776 := ptoLoop_top _ _ (by decide) (by decide) (by omega)
  rw [e5]
  clear e5
  have k5 := below_on k4 hb5 (by omega)
  go_wp2_with (fail)
  go_returns
  exact ⟨rfl, k5⟩

theorem walk_RttKnown (H : Type) (_ : TypeId × Value → H) (w : World) (_ : Nat) : Calls Try.prog 3 #[] w fun e w' => e = .returned (.bool true) ∧ Below w.heap.size w w' := known_law w

end Rtt
end Go.Proofs.Ytnnlejllhmhmmaa
