/- The document's Int. -/
import Derived.Test.YthangjgdjhhfgaaDoorScD1
namespace Go.Proofs.YthangjgdjhhfgaaDoor
open Go.RowKit
set_option linter.unusedVariables false
def intV (s : List UInt8) : Value := match intO s with
  | some n => .tuple #[.int .i64 n, .bool true]
  | none => .tuple #[.int .i64 0, .bool false]
theorem tx_cut (s : List UInt8) (a b : Nat) : (tx s).extract a b = tx ((s.drop a).take (b - a)) := by
  apply ByteArray.ext
  apply Array.ext'
  simp [tx, ByteArray.data_extract, List.extract_eq_take_drop]
theorem refLoop_max (M : Nat) (hM : 255 ≤ M) : ∀ (l : List UInt8) (acc n : Nat), acc ≤ M → refLoop M acc l = some n → n ≤ M
  | [], acc, n, h, h2 => by rw [refLoop] at h2; cases h2; exact h
  | c :: l, acc, n, h, h2 => by
    rw [refLoop] at h2
    split at h2
    · cases h2
    · split at h2
      · cases h2
      · rename_i h3 h4
        exact refLoop_max M hM l _ n (by omega) h2
theorem numM_max {M n : Nat} {l : List UInt8} (hM : 255 ≤ M) (h : numM M l = some n) : n ≤ M := by
  unfold numM at h
  split at h
  · cases h
  · exact refLoop_max M hM l 0 n (by omega) h
set_option maxRecDepth 100000 in
set_option maxHeartbeats 8000000 in
theorem rint_any (s : List UInt8) (w : World) (hs : s.length ≤ 1000000) :
    Calls Tryd.prog 56 #[.string (tx s)] w fun x w' => x = .returned (intV s) ∧ Below w.heap.size w w' := by
  obtain ⟨n, hn⟩ : ∃ n, s.length = n := ⟨_, rfl⟩
  have hsz : (tx s).size = n := by rw [tx_size, hn]
  by_cases hm : s.head? = some 45
  · obtain ⟨t, rfl⟩ : ∃ t, s = 45 :: t := by
      cases s with
      | nil => cases hm
      | cons c t => simp at hm; subst hm; exact ⟨t, rfl⟩
    have hc0 : ∀ h, (tx (45 :: t))[0]'h = 45 := fun h => by rw [tx_get]; rfl
    have hcut : (tx (45 :: t)).extract 1 n = tx t := by
      rw [tx_cut]
      simp only [List.drop_succ_cons, List.drop_zero]
      rw [List.take_of_length_le (by simp at hn; omega)]
    have hn0 : (n : Int) > 0 := by simp at hn; omega
    have HNM := Lib.hid (rnumber_any 9223372036854775808 (by omega) (by omega) t w)
    cases hk : numM 9223372036854775808 t with
    | none =>
      have hv : intV (45 :: t) = .tuple #[.int .i64 0, .bool false] := by simp [intV, intO, hk]
      have hnv : numMV 9223372036854775808 t = .tuple #[.int .u64 0, .bool false] := by simp [numMV, hk]
      rw [hv]
      rw [hnv] at HNM
      clear hv hnv hk hm hs hn
      go_enter Tryd.func56, Tryd.ntmps56
      go_wp2_with (fail)
      refine HNM.out.mono ?_
      rintro x w1 ⟨rfl, b1⟩
      go_wp2_with (fail)
      go_returns
      exact ⟨rfl, b1⟩
    | some u =>
      have hub := numM_max (by omega) hk
      by_cases hu : 0 < u
      · have hv : intV (45 :: t) = .tuple #[.int .i64 (-(u : Int)), .bool true] := by simp [intV, intO, hk, hu]
        have hnv : numMV 9223372036854775808 t = .tuple #[.int .u64 (u : Nat), .bool true] := by simp [numMV, hk]
        have hui : (0 : Int) < (u : Int) := by omega
        have hw1 : IntKind.i64.wrap (IntKind.u64.wrap (-(u : Int))) = -(u : Int) := by
          simp only [IntKind.wrap_u64, IntKind.wrap_i64]; omega
        rw [hv]
        rw [hnv] at HNM
        have HU := Lib.hid hu
        clear hv hnv hk hm hs hn hu
        go_enter Tryd.func56, Tryd.ntmps56
        go_wp2_with (fail)
        refine HNM.out.mono ?_
        rintro x w1 ⟨rfl, b1⟩
        go_wp2_with (fail)
        go_returns
        refine ⟨?_, b1⟩
        show Ending.returned (.tuple #[.int .i64 (-(u : Int)), .bool (decide (0 < u))]) = _
        rw [decide_eq_true HU.out]
      · obtain rfl : u = 0 := by omega
        have hv : intV (45 :: t) = .tuple #[.int .i64 0, .bool false] := by simp [intV, intO, hk]
        have hnv : numMV 9223372036854775808 t = .tuple #[.int .u64 0, .bool true] := by simp [numMV, hk]
        rw [hv]
        rw [hnv] at HNM
        clear hv hnv hk hm hs hn hu
        go_enter Tryd.func56, Tryd.ntmps56
        go_wp2_with (fail)
        refine HNM.out.mono ?_
        rintro x w1 ⟨rfl, b1⟩
        go_wp2_with (fail)
        go_returns
        exact ⟨rfl, b1⟩
  · have HNM := Lib.hid (rnumber_any 9223372036854775807 (by omega) (by omega) s w)
    have hio : intV s = match numM 9223372036854775807 s with
        | some u => .tuple #[.int .i64 (u : Nat), .bool true]
        | none => .tuple #[.int .i64 0, .bool false] := by
      unfold intV intO
      rw [if_neg hm]
      cases numM 9223372036854775807 s <;> rfl
    obtain ⟨R, hR⟩ : ∃ R : Nat × Bool, numMV 9223372036854775807 s = .tuple #[.int .u64 (R.1 : Nat), .bool R.2] ∧ intV s = .tuple #[.int .i64 (R.1 : Nat), .bool R.2] ∧ R.1 ≤ 9223372036854775807 := by
      rw [hio]
      unfold numMV
      cases hk : numM 9223372036854775807 s with
      | none => exact ⟨(0, false), rfl, rfl, by omega⟩
      | some u => exact ⟨(u, true), rfl, rfl, numM_max (by omega) hk⟩
    obtain ⟨u, bb⟩ := R
    obtain ⟨r1, r2, r3⟩ := hR
    simp only at r1 r2 r3
    have hw1 : IntKind.i64.wrap (u : Int) = (u : Int) := by
      simp only [IntKind.wrap_i64]; omega
    rw [r2]
    rw [r1] at HNM
    clear r1 r2 hio
    by_cases h0 : n = 0
    · subst h0
      have hz : s = [] := List.length_eq_zero_iff.1 hn
      subst hz
      clear hm hs hn
      go_enter Tryd.func56, Tryd.ntmps56
      go_wp2_with (fail)
      refine HNM.out.mono ?_
      rintro x w1 ⟨rfl, b1⟩
      go_wp2_with (fail)
      go_returns
      exact ⟨rfl, b1⟩
    · obtain ⟨c, hc⟩ : ∃ c, s.getD 0 0 = c := ⟨_, rfl⟩
      have hc0 : ∀ h, (tx s)[0]'h = c := fun h => by rw [tx_get, hc]
      have hn0 : (n : Int) > 0 := by omega
      have hne : ((c.toNat : Int) == 45) = false := by
        have : c ≠ 45 := fun h => hm (by
          cases s with
          | nil => simp at hn; omega
          | cons x l => simp at hc; rw [hc, h]; rfl)
        have h2 : c.toNat ≠ 45 := fun h => this (UInt8.toNat_inj.1 h)
        simp; omega
      clear hm hs hn hc
      go_enter Tryd.func56, Tryd.ntmps56
      go_wp2_with (fail)
      refine HNM.out.mono ?_
      rintro x w1 ⟨rfl, b1⟩
      go_wp2_with (fail)
      go_returns
      exact ⟨rfl, b1⟩
end Go.Proofs.YthangjgdjhhfgaaDoor
