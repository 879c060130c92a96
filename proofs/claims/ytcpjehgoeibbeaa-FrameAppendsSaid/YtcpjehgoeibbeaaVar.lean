/- Layer 1's calls: what each does. -/
import Derived.Test.YtcpjehgoeibbeaaVarP
namespace Go.Proofs.Ytcpjehgoeibbeaa
open Go.RowKit
set_option linter.unusedVariables false
namespace Var

theorem bytes_et : ET Try.prog 23 5 1 1 := et_of (by kernel_rfl)
theorem ints_et : ET Try.prog 70 30 1 8 := et_of (by kernel_rfl)

theorem class_le (n : Int) : classF n ≤ 4 := by unfold classF; repeat' split
                                                all_goals omega

set_option maxHeartbeats 1000000 in
theorem class_any (n : Int) (w : World) (h0 : 0 ≤ n) (h1 : n ≤ 18446744073709551615) : Calls Try.prog 55 #[.int .u64 n] w fun e w' => e = .returned (.int .i64 (classF n)) ∧ w = w' := by
  go_enter Try.func55, Try.ntmps55
  go_wp2_with (fail)
  go_loop [3] (fun i => ∃ k : Nat, i = .int .i64 k ∧ k ≤ classF n) (fun i => 4 - (intOf i).toNat)
  case atStart => exact ⟨0, rfl, by omega⟩
  case round =>
    obtain ⟨k, rfl, hk⟩ := hrel
    rcases class_cases n h0 with ⟨hc, hb⟩ | ⟨hc, hb⟩ | ⟨hc, hb⟩ | ⟨hc, hb⟩ | ⟨hc, hb⟩ <;> rw [hc] at hk ⊢
    · obtain rfl : k = 0 := by omega
      go_wp2_with (fail)
      go_returns
      exact ⟨rfl, rfl⟩
    · rcases (by omega : k = 0 ∨ k = 1) with rfl | rfl
      · go_wp2_with (fail)
        exact ⟨⟨1, by go_num, by omega⟩, by simp [intOf]⟩
      · go_wp2_with (fail)
        go_returns
        exact ⟨rfl, rfl⟩
    · rcases (by omega : k = 0 ∨ k = 1 ∨ k = 2) with rfl | rfl | rfl
      · go_wp2_with (fail)
        exact ⟨⟨1, by go_num, by omega⟩, by simp [intOf]⟩
      · go_wp2_with (fail)
        exact ⟨⟨2, by go_num, by omega⟩, by simp [intOf]⟩
      · go_wp2_with (fail)
        go_returns
        exact ⟨rfl, rfl⟩
    · rcases (by omega : k = 0 ∨ k = 1 ∨ k = 2 ∨ k = 3) with rfl | rfl | rfl | rfl
      · go_wp2_with (fail)
        exact ⟨⟨1, by go_num, by omega⟩, by simp [intOf]⟩
      · go_wp2_with (fail)
        exact ⟨⟨2, by go_num, by omega⟩, by simp [intOf]⟩
      · go_wp2_with (fail)
        exact ⟨⟨3, by go_num, by omega⟩, by simp [intOf]⟩
      · go_wp2_with (fail)
        go_returns
        exact ⟨rfl, rfl⟩
    · rcases (by omega : k = 0 ∨ k = 1 ∨ k = 2 ∨ k = 3 ∨ k = 4) with rfl | rfl | rfl | rfl | rfl
      · go_wp2_with (fail)
        exact ⟨⟨1, by go_num, by omega⟩, by simp [intOf]⟩
      · go_wp2_with (fail)
        exact ⟨⟨2, by go_num, by omega⟩, by simp [intOf]⟩
      · go_wp2_with (fail)
        exact ⟨⟨3, by go_num, by omega⟩, by simp [intOf]⟩
      · go_wp2_with (fail)
        exact ⟨⟨4, by go_num, by omega⟩, by simp [intOf]⟩
      · go_wp2_with (fail)
        go_returns
        exact ⟨rfl, rfl⟩

theorem width_any (c : Int) (w : World) (hc0 : 0 ≤ c) (hc : c ≤ 3) : Calls Try.prog 56 #[.int .i64 c] w fun e w' => e = .returned (.int .i64 (2 ^ c.toNat : Nat)) ∧ w = w' := by
  rcases (by omega : c = 0 ∨ c = 1 ∨ c = 2 ∨ c = 3) with rfl | rfl | rfl | rfl
  all_goals
    go_enter Try.func56, Try.ntmps56
    go_wp2_with (fail)
    go_returns
    exact ⟨rfl, rfl⟩

theorem size_any (n : Int) (w : World) (h0 : 0 ≤ n) (h1 : n ≤ 18446744073709551615) : Calls Try.prog 43 #[.int .u64 n] w fun e w' => e = .returned (.int .i64 (sizeF n)) ∧ w = w' := by
  have hle := class_le n
  by_cases hc : classF n < 4
  · have es : sizeF n = 2 ^ classF n := by simp [sizeF, hc]
    rw [es]
    go_enter Try.func43, Try.ntmps43
    go_wp2_with (fail)
    refine (class_any n _ h0 h1).mono ?_
    rintro e w1 ⟨rfl, rfl⟩
    go_wp2_with (fail)
    refine (width_any (classF n) _ (by omega) (by omega)).mono ?_
    rintro e w1 ⟨rfl, rfl⟩
    go_wp2_with (fail)
    go_returns
    exact ⟨rfl, rfl⟩
  · have es : sizeF n = 0 := by simp [sizeF, hc]
    rw [es]
    go_enter Try.func43, Try.ntmps43
    go_wp2_with (fail)
    refine (class_any n _ h0 h1).mono ?_
    rintro e w1 ⟨rfl, rfl⟩
    go_wp2_with (fail)
    go_returns
    exact ⟨rfl, rfl⟩

theorem rsize_any (n : Int) (w : World) (h0 : 0 ≤ n) (h1 : n ≤ 18446744073709551615) : Calls Try.prog 60 #[.int .u64 n] w fun e w' => e = .returned (.int .i64 (sizeF n)) ∧ w = w' := by
  unfold sizeF
  rcases class_cases n h0 with ⟨h, hb⟩ | ⟨h, hb⟩ | ⟨h, hb⟩ | ⟨h, hb⟩ | ⟨h, hb⟩ <;> rw [h]
  all_goals
    go_enter Try.func60, Try.ntmps60
    go_wp2_with (fail)
    go_returns
    exact ⟨rfl, rfl⟩

end Var
end Go.Proofs.Ytcpjehgoeibbeaa
