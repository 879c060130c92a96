/- The document's Number, Int, Unhex (the first lines from XTx6). -/
import Derived.Test.YthangjgdjhhfgaaDoorScW3
namespace Go.Proofs.YthangjgdjhhfgaaDoor
open Go.RowKit
set_option linter.unusedVariables false
theorem drop_at {s : List UInt8} {i : Nat} (h : i < s.length) : s.drop i = s.getD i 0 :: s.drop (i + 1) := by
  rw [List.drop_eq_getElem_cons h]; simp [h]
def numMV (M : Nat) (s : List UInt8) : Value := match numM M s with
  | some n => .tuple #[.int .u64 (n : Nat), .bool true]
  | none => .tuple #[.int .u64 0, .bool false]
set_option maxRecDepth 100000 in
set_option maxHeartbeats 8000000 in
theorem rnumber_any (M : Nat) (hM0 : 255 ≤ M) (hM1 : M ≤ 18446744073709551615) (s : List UInt8) (w : World) :
    Calls Tryd.prog 55 #[.string (tx s), .int .u64 M] w fun x w' => x = .returned (numMV M s) ∧ Below w.heap.size w w' := by
  by_cases h0 : s.length = 0
  · have hv : numMV M s = .tuple #[.int .u64 0, .bool false] := by unfold numMV numM; rw [if_pos (.inl h0)]
    have hz : s = [] := List.length_eq_zero_iff.1 h0
    subst hz
    have HV := Lib.hid hv
    clear hv h0
    go_enter Tryd.func55, Tryd.ntmps55
    go_wp2_with (fail)
    go_returns
    exact ⟨by rw [HV.out]; rfl, Below.refl _ _⟩
  · obtain ⟨n, hn⟩ : ∃ n, s.length = n := ⟨_, rfl⟩
    have hsz : (tx s).size = n := by rw [tx_size, hn]
    by_cases h20 : n > 20
    · have hv : numMV M s = .tuple #[.int .u64 0, .bool false] := by unfold numMV numM; rw [if_pos (.inr (.inl (by omega)))]
      have HV := Lib.hid hv
      have d1 : ((n : Int) == 0) = false := by simp; omega
      have d2 : (n : Int) > 20 := by omega
      clear hv
      go_enter Tryd.func55, Tryd.ntmps55
      go_wp2_with (fail)
      go_returns
      exact ⟨by rw [HV.out]; rfl, Below.refl _ _⟩
    · have d1 : ((n : Int) == 0) = false := by simp; omega
      have d2 : ¬ (n : Int) > 20 := by omega
      obtain ⟨c, hc⟩ : ∃ c, s.getD 0 0 = c := ⟨_, rfl⟩
      have hc0 : ∀ h, (tx s)[0]'h = c := fun h => by rw [tx_get, hc]
      by_cases h48 : c = 48 ∧ n > 1
      · have hv : numMV M s = .tuple #[.int .u64 0, .bool false] := by
          unfold numMV numM
          rw [if_pos (.inr (.inr ⟨by cases s with
            | nil => simp at h0
            | cons x l => simp at hc; rw [hc, h48.1]; rfl, by omega⟩))]
        have HV := Lib.hid hv
        have d3 : (n : Int) > 1 := by omega
        have d4 : ((c.toNat : Int) == 48) = true := by rw [h48.1]; rfl
        clear hv hc
        go_enter Tryd.func55, Tryd.ntmps55
        go_wp2_with (fail)
        go_returns
        exact ⟨by rw [HV.out]; rfl, Below.refl _ _⟩
      · have hrf : numM M s = refLoop M 0 s := by
          unfold numM
          rw [if_neg]
          rintro (h | h | ⟨h1, h2⟩)
          · exact h0 h
          · omega
          · refine h48 ⟨?_, by omega⟩
            cases s with
            | nil => simp at h0
            | cons x l => simp at h1 hc; rw [← hc, h1]
        have HRF := Lib.hid hrf
        have HN := Lib.hid hn
        have hw : n > 1 → ((c.toNat : Int) == 48) = false := by
          intro h1
          have : c ≠ 48 := fun h => h48 ⟨h, h1⟩
          have h2 : c.toNat ≠ 48 := fun h => this (UInt8.toNat_inj.1 h)
          simp; omega
        have hstart : Hid (refLoop M 0 (s.drop 0) = refLoop M 0 s) := Lib.hid rfl
        clear hrf hc h48
        by_cases h1 : n > 1
        · have d4 := hw h1
          have d3 : (n : Int) > 1 := by omega
          clear hw
          go_enter Tryd.func55, Tryd.ntmps55
          go_wp2_with (fail)
          clear hc0 d3 d4
          go_loopw [6, 7, 8] (fun acc i _ wr => ∃ (v k : Nat), acc = .int .u64 v ∧ i = .int .i64 k ∧ k ≤ n ∧ v ≤ 18446744073709551615 ∧ wr = w ∧ Hid (refLoop M v (s.drop k) = refLoop M 0 s)) (fun _ i _ _ => n - (intOf i).toNat)
          case atStart => exact ⟨0, 0, rfl, rfl, by omega, by omega, rfl, hstart⟩
          case round =>
            obtain ⟨v, k, rfl, rfl, hk, hv, rfl, hrel⟩ := hrel
            by_cases hlt : k < n
            · have hki : (k : Int) < n := by omega
              obtain ⟨c, hc⟩ : ∃ c, s.getD k 0 = c := ⟨_, rfl⟩
              have hdr : s.drop k = c :: s.drop (k + 1) := by rw [drop_at (by rw [HN.out]; exact hlt), hc]
              have hrl := hrel.out
              rw [hdr, refLoop] at hrl
              obtain ⟨m, hm⟩ : ∃ m, c.toNat = m := ⟨_, rfl⟩
              have hm255 : m ≤ 255 := by rw [← hm]; have := c.toNat_lt; omega
              rw [hm] at hrl
              have hmi : ∀ h, (((tx s)[k]'h).toNat : Int) = m := fun h => by rw [tx_get, hc, hm]
              clear hc hdr hm
              by_cases hd : m < 48 ∨ m > 57
              · rw [if_pos hd] at hrl
                have hv2 : numMV M s = .tuple #[.int .u64 0, .bool false] := by unfold numMV; rw [HRF.out, ← hrl]
                have HV := Lib.hid hv2
                clear hv2 hrl
                rcases hd with hd | hd
                · have e1 : (m : Int) < 48 := by omega
                  go_wp2_with (fail)
                  go_returns
                  exact ⟨by rw [HV.out]; rfl, Below.refl _ _⟩
                · have e1 : ¬ (m : Int) < 48 := by omega
                  have e2 : (m : Int) > 57 := by omega
                  go_wp2_with (fail)
                  go_returns
                  exact ⟨by rw [HV.out]; rfl, Below.refl _ _⟩
              · rw [if_neg hd] at hrl
                have e1 : ¬ (m : Int) < 48 := by omega
                have e2 : ¬ (m : Int) > 57 := by omega
                have e3 : ((m : Int) - 48) % 18446744073709551616 = ((m - 48 : Nat) : Int) := by omega
                obtain ⟨d, hd2⟩ : ∃ d, m - 48 = d := ⟨_, rfl⟩
                rw [hd2] at hrl e3
                have hd9 : d ≤ 9 := by omega
                have e4 : ((M : Int) - (d : Int)) % 18446744073709551616 = ((M - d : Nat) : Int) := by omega
                have e5 : ((M - d : Nat) : Int) / 10 = (((M - d) / 10 : Nat) : Int) := by omega
                have e6 : ((M : Int) - (d : Int)) / 10 = (((M - d) / 10 : Nat) : Int) := by omega
                obtain ⟨q, hq⟩ : ∃ q, (M - d) / 10 = q := ⟨_, rfl⟩
                rw [show (M - d) / 10 = q from hq] at hrl
                rw [hq] at e5 e6
                by_cases h3 : v > q
                · rw [if_pos h3] at hrl
                  have hv2 : numMV M s = .tuple #[.int .u64 0, .bool false] := by unfold numMV; rw [HRF.out, ← hrl]
                  have HV := Lib.hid hv2
                  have f1 : (v : Int) > q := by omega
                  clear hv2 hrl h3 hq hd
                  go_wp2_with (fail)
                  go_returns
                  exact ⟨by rw [HV.out]; rfl, Below.refl _ _⟩
                · rw [if_neg h3] at hrl
                  have f1 : ¬ (v : Int) > q := by omega
                  have e7 : ¬ (d : Int) > (M : Int) := by omega
                  have f2 : 10 * v + d ≤ 18446744073709551615 := by omega
                  have f3 : (10 * (v : Int)) % 18446744073709551616 = ((10 * v : Nat) : Int) := by omega
                  have f4 : (((10 * v : Nat) : Int) + (d : Int)) % 18446744073709551616 = ((10 * v + d : Nat) : Int) := by omega
                  have f5 : (10 * (v : Int) + (d : Int)) % 18446744073709551616 = ((10 * v + d : Nat) : Int) := by omega
                  have HRL := Lib.hid hrl
                  clear hrl h3 hq hd
                  go_wp2_with (fail)
                  exact ⟨⟨10 * v + d, k + 1, by go_num, by go_num, by omega, by omega, trivial, HRL⟩, by simp [intOf]; omega⟩
            · obtain rfl : k = n := by omega
              have hrl := hrel.out
              rw [List.drop_of_length_le (by rw [HN.out]; omega), refLoop] at hrl
              have hv2 : numMV M s = .tuple #[.int .u64 v, .bool true] := by unfold numMV; rw [HRF.out, ← hrl]
              have HV := Lib.hid hv2
              clear hv2 hrl
              go_wp2_with (fail)
              go_returns
              exact ⟨by rw [HV.out]; rfl, Below.refl _ _⟩
        · have d3 : ¬ (n : Int) > 1 := by omega
          clear hw
          obtain ⟨b, hb⟩ : ∃ b, ((c.toNat : Int) == 48) = b := ⟨_, rfl⟩
          cases b with
          | true =>
            have d4 := hb
            clear hb
            go_enter Tryd.func55, Tryd.ntmps55
            go_wp2_with (fail)
            clear hc0 d3 d4
            go_loopw [6, 7, 8] (fun acc i _ wr => ∃ (v k : Nat), acc = .int .u64 v ∧ i = .int .i64 k ∧ k ≤ n ∧ v ≤ 18446744073709551615 ∧ wr = w ∧ Hid (refLoop M v (s.drop k) = refLoop M 0 s)) (fun _ i _ _ => n - (intOf i).toNat)
            case atStart => exact ⟨0, 0, rfl, rfl, by omega, by omega, rfl, hstart⟩
            case round =>
              obtain ⟨v, k, rfl, rfl, hk, hv, rfl, hrel⟩ := hrel
              by_cases hlt : k < n
              · have hki : (k : Int) < n := by omega
                obtain ⟨c, hc⟩ : ∃ c, s.getD k 0 = c := ⟨_, rfl⟩
                have hdr : s.drop k = c :: s.drop (k + 1) := by rw [drop_at (by rw [HN.out]; exact hlt), hc]
                have hrl := hrel.out
                rw [hdr, refLoop] at hrl
                obtain ⟨m, hm⟩ : ∃ m, c.toNat = m := ⟨_, rfl⟩
                have hm255 : m ≤ 255 := by rw [← hm]; have := c.toNat_lt; omega
                rw [hm] at hrl
                have hmi : ∀ h, (((tx s)[k]'h).toNat : Int) = m := fun h => by rw [tx_get, hc, hm]
                clear hc hdr hm
                by_cases hd : m < 48 ∨ m > 57
                · rw [if_pos hd] at hrl
                  have hv2 : numMV M s = .tuple #[.int .u64 0, .bool false] := by unfold numMV; rw [HRF.out, ← hrl]
                  have HV := Lib.hid hv2
                  clear hv2 hrl
                  rcases hd with hd | hd
                  · have e1 : (m : Int) < 48 := by omega
                    go_wp2_with (fail)
                    go_returns
                    exact ⟨by rw [HV.out]; rfl, Below.refl _ _⟩
                  · have e1 : ¬ (m : Int) < 48 := by omega
                    have e2 : (m : Int) > 57 := by omega
                    go_wp2_with (fail)
                    go_returns
                    exact ⟨by rw [HV.out]; rfl, Below.refl _ _⟩
                · rw [if_neg hd] at hrl
                  have e1 : ¬ (m : Int) < 48 := by omega
                  have e2 : ¬ (m : Int) > 57 := by omega
                  have e3 : ((m : Int) - 48) % 18446744073709551616 = ((m - 48 : Nat) : Int) := by omega
                  obtain ⟨d, hd2⟩ : ∃ d, m - 48 = d := ⟨_, rfl⟩
                  rw [hd2] at hrl e3
                  have hd9 : d ≤ 9 := by omega
                  have e4 : ((M : Int) - (d : Int)) % 18446744073709551616 = ((M - d : Nat) : Int) := by omega
                  have e5 : ((M - d : Nat) : Int) / 10 = (((M - d) / 10 : Nat) : Int) := by omega
                  have e6 : ((M : Int) - (d : Int)) / 10 = (((M - d) / 10 : Nat) : Int) := by omega
                  obtain ⟨q, hq⟩ : ∃ q, (M - d) / 10 = q := ⟨_, rfl⟩
                  rw [show (M - d) / 10 = q from hq] at hrl
                  rw [hq] at e5 e6
                  by_cases h3 : v > q
                  · rw [if_pos h3] at hrl
                    have hv2 : numMV M s = .tuple #[.int .u64 0, .bool false] := by unfold numMV; rw [HRF.out, ← hrl]
                    have HV := Lib.hid hv2
                    have f1 : (v : Int) > q := by omega
                    clear hv2 hrl h3 hq hd
                    go_wp2_with (fail)
                    go_returns
                    exact ⟨by rw [HV.out]; rfl, Below.refl _ _⟩
                  · rw [if_neg h3] at hrl
                    have f1 : ¬ (v : Int) > q := by omega
                    have e7 : ¬ (d : Int) > (M : Int) := by omega
                    have f2 : 10 * v + d ≤ 18446744073709551615 := by omega
                    have f3 : (10 * (v : Int)) % 18446744073709551616 = ((10 * v : Nat) : Int) := by omega
                    have f4 : (((10 * v : Nat) : Int) + (d : Int)) % 18446744073709551616 = ((10 * v + d : Nat) : Int) := by omega
                    have f5 : (10 * (v : Int) + (d : Int)) % 18446744073709551616 = ((10 * v + d : Nat) : Int) := by omega
                    have HRL := Lib.hid hrl
                    clear hrl h3 hq hd
                    go_wp2_with (fail)
                    exact ⟨⟨10 * v + d, k + 1, by go_num, by go_num, by omega, by omega, trivial, HRL⟩, by simp [intOf]; omega⟩
              · obtain rfl : k = n := by omega
                have hrl := hrel.out
                rw [List.drop_of_length_le (by rw [HN.out]; omega), refLoop] at hrl
                have hv2 : numMV M s = .tuple #[.int .u64 v, .bool true] := by unfold numMV; rw [HRF.out, ← hrl]
                have HV := Lib.hid hv2
                clear hv2 hrl
                go_wp2_with (fail)
                go_returns
                exact ⟨by rw [HV.out]; rfl, Below.refl _ _⟩
          | false =>
            have d4 := hb
            clear hb
            go_enter Tryd.func55, Tryd.ntmps55
            go_wp2_with (fail)
            clear hc0 d3 d4
            go_loopw [6, 7, 8] (fun acc i _ wr => ∃ (v k : Nat), acc = .int .u64 v ∧ i = .int .i64 k ∧ k ≤ n ∧ v ≤ 18446744073709551615 ∧ wr = w ∧ Hid (refLoop M v (s.drop k) = refLoop M 0 s)) (fun _ i _ _ => n - (intOf i).toNat)
            case atStart => exact ⟨0, 0, rfl, rfl, by omega, by omega, rfl, hstart⟩
            case round =>
              obtain ⟨v, k, rfl, rfl, hk, hv, rfl, hrel⟩ := hrel
              by_cases hlt : k < n
              · have hki : (k : Int) < n := by omega
                obtain ⟨c, hc⟩ : ∃ c, s.getD k 0 = c := ⟨_, rfl⟩
                have hdr : s.drop k = c :: s.drop (k + 1) := by rw [drop_at (by rw [HN.out]; exact hlt), hc]
                have hrl := hrel.out
                rw [hdr, refLoop] at hrl
                obtain ⟨m, hm⟩ : ∃ m, c.toNat = m := ⟨_, rfl⟩
                have hm255 : m ≤ 255 := by rw [← hm]; have := c.toNat_lt; omega
                rw [hm] at hrl
                have hmi : ∀ h, (((tx s)[k]'h).toNat : Int) = m := fun h => by rw [tx_get, hc, hm]
                clear hc hdr hm
                by_cases hd : m < 48 ∨ m > 57
                · rw [if_pos hd] at hrl
                  have hv2 : numMV M s = .tuple #[.int .u64 0, .bool false] := by unfold numMV; rw [HRF.out, ← hrl]
                  have HV := Lib.hid hv2
                  clear hv2 hrl
                  rcases hd with hd | hd
                  · have e1 : (m : Int) < 48 := by omega
                    go_wp2_with (fail)
                    go_returns
                    exact ⟨by rw [HV.out]; rfl, Below.refl _ _⟩
                  · have e1 : ¬ (m : Int) < 48 := by omega
                    have e2 : (m : Int) > 57 := by omega
                    go_wp2_with (fail)
                    go_returns
                    exact ⟨by rw [HV.out]; rfl, Below.refl _ _⟩
                · rw [if_neg hd] at hrl
                  have e1 : ¬ (m : Int) < 48 := by omega
                  have e2 : ¬ (m : Int) > 57 := by omega
                  have e3 : ((m : Int) - 48) % 18446744073709551616 = ((m - 48 : Nat) : Int) := by omega
                  obtain ⟨d, hd2⟩ : ∃ d, m - 48 = d := ⟨_, rfl⟩
                  rw [hd2] at hrl e3
                  have hd9 : d ≤ 9 := by omega
                  have e4 : ((M : Int) - (d : Int)) % 18446744073709551616 = ((M - d : Nat) : Int) := by omega
                  have e5 : ((M - d : Nat) : Int) / 10 = (((M - d) / 10 : Nat) : Int) := by omega
                  have e6 : ((M : Int) - (d : Int)) / 10 = (((M - d) / 10 : Nat) : Int) := by omega
                  obtain ⟨q, hq⟩ : ∃ q, (M - d) / 10 = q := ⟨_, rfl⟩
                  rw [show (M - d) / 10 = q from hq] at hrl
                  rw [hq] at e5 e6
                  by_cases h3 : v > q
                  · rw [if_pos h3] at hrl
                    have hv2 : numMV M s = .tuple #[.int .u64 0, .bool false] := by unfold numMV; rw [HRF.out, ← hrl]
                    have HV := Lib.hid hv2
                    have f1 : (v : Int) > q := by omega
                    clear hv2 hrl h3 hq hd
                    go_wp2_with (fail)
                    go_returns
                    exact ⟨by rw [HV.out]; rfl, Below.refl _ _⟩
                  · rw [if_neg h3] at hrl
                    have f1 : ¬ (v : Int) > q := by omega
                    have e7 : ¬ (d : Int) > (M : Int) := by omega
                    have f2 : 10 * v + d ≤ 18446744073709551615 := by omega
                    have f3 : (10 * (v : Int)) % 18446744073709551616 = ((10 * v : Nat) : Int) := by omega
                    have f4 : (((10 * v : Nat) : Int) + (d : Int)) % 18446744073709551616 = ((10 * v + d : Nat) : Int) := by omega
                    have f5 : (10 * (v : Int) + (d : Int)) % 18446744073709551616 = ((10 * v + d : Nat) : Int) := by omega
                    have HRL := Lib.hid hrl
                    clear hrl h3 hq hd
                    go_wp2_with (fail)
                    exact ⟨⟨10 * v + d, k + 1, by go_num, by go_num, by omega, by omega, trivial, HRL⟩, by simp [intOf]; omega⟩
              · obtain rfl : k = n := by omega
                have hrl := hrel.out
                rw [List.drop_of_length_le (by rw [HN.out]; omega), refLoop] at hrl
                have hv2 : numMV M s = .tuple #[.int .u64 v, .bool true] := by unfold numMV; rw [HRF.out, ← hrl]
                have HV := Lib.hid hv2
                clear hv2 hrl
                go_wp2_with (fail)
                go_returns
                exact ⟨by rw [HV.out]; rfl, Below.refl _ _⟩
end Go.Proofs.YthangjgdjhhfgaaDoor
