/- FlowPair: the methods with one number, the closure. -/
import Derived.Test.YticnjdlapioppaaFlow
import Derived.Test.YticnjdlapioppaaArgs
namespace Go.Proofs.Yticnjdlapioppaa
open Go.RowKit
set_option linter.unusedVariables false
namespace Flow

def fa (sm s : Int) : FS := ⟨sm, s, 0, 0, 0, 0, 0, 0, 0, 0, 0, 0, 0⟩
def fb (sm s r : Int) : FS := ⟨0, 0, sm, s, r, 0, 0, 0, 0, 0, 0, 0, 0⟩
def smF (sm r win : Int) : Int := (raiseF sm r win 4611686018427387903).getD sm

/-- The closure: the limits go over. -/
theorem grants_any (pA pB qa qb q7 : Nat) (win sm s r : Int) (w : World) (hw : inV win) (h1 : inV sm) (h2 : inV s) (h3 : inV r) (hne : pA ≠ pB)
    (hA : Blk w pA (fa sm s).vals 31) (hB : Blk w pB (fb sm s r).vals 31)
    (h7 : Blk w q7 #[.int .u64 win] 25) (hqa : Blk w qa #[.pointer (some ⟨pA, 0, none⟩)] 26) (hqb : Blk w qb #[.pointer (some ⟨pB, 0, none⟩)] 26)
    (ha : qa ≠ pB) : Calls Try.prog 9 #[.pointer (some ⟨qb, 0, none⟩), .pointer (some ⟨q7, 0, none⟩), .pointer (some ⟨qa, 0, none⟩)] w fun e w' =>
      e = .returned (.tuple #[]) ∧ Blk w' pA (fa (smF sm r win) s).vals 31 ∧ Blk w' pB (fb (smF sm r win) s r).vals 31 ∧ Only (fun k => k = pA ∨ k = pB) w w' := by
  have c7 := h7.cell 0 _ rfl
  have ca := hqa.cell 0 _ rfl
  have cb := hqb.cell 0 _ rfl
  have hm := more_any pB (fb sm s r) win w (by simp [FS.ok, fb, inV] at *; omega) hw hB
  rw [show (fb sm s r).rmax = sm from rfl, show (fb sm s r).read = r from rfl] at hm
  have hmF : moreF (fb sm s r) win = fb (smF sm r win) s r := rfl
  rw [hmF] at hm
  have HM := Lib.hid hm
  have hk : raiseF sm r win 4611686018427387903 = none ∧ smF sm r win = sm ∨ ∃ n, raiseF sm r win 4611686018427387903 = some n ∧ smF sm r win = n ∧ sm < n ∧ n ≤ 4611686018427387903 := by
    unfold smF raiseF
    by_cases h : min (r + win) 4611686018427387903 ≤ sm ∨ min (r + win) 4611686018427387903 - sm < win / 2 + 1
    · rw [if_pos h]; exact .inl ⟨rfl, rfl⟩
    · rw [if_neg h]; exact .inr ⟨_, rfl, rfl, by omega, by omega⟩
  clear hm hmF
  obtain ⟨sm', hsm⟩ : ∃ x, smF sm r win = x := ⟨_, rfl⟩
  rw [hsm] at hk HM ⊢
  obtain ⟨o, ho⟩ : ∃ x, raiseF sm r win 4611686018427387903 = x := ⟨_, rfl⟩
  rw [ho] at hk HM
  clear hsm ho
  rcases hk with ⟨rfl, rfl⟩ | ⟨n, rfl, rfl, k1, k2⟩
  · go_enter Try.func9, Try.ntmps9
    go_wp2_with (fail)
    refine HM.out.mono ?_
    rintro e w1 ⟨rfl, b1, o1⟩
    simp only [Option.getD_none, Option.isSome_none]
    go_wp2_with (fail)
    go_returns
    exact ⟨rfl, o1.blk hA hne, b1, o1.mono (fun k _ h => .inr h)⟩
  · go_enter Try.func9, Try.ntmps9
    go_wp2_with (fail)
    refine HM.out.mono ?_
    rintro e w1 ⟨rfl, b1, o1⟩
    simp only [Option.getD_some, Option.isSome_some]
    have ca1 := (o1.blk hqa ha).cell 0 _ rfl
    have hA1 := o1.blk hA hne
    go_wp2_with (fail)
    unfold inV at h1
    refine (allow_any pA (fa sm s) sm' w1 (by simp [FS.ok, fa, inV] at *; omega) (by omega) hA1).mono ?_
    rintro e w2 ⟨rfl, b2, o2⟩
    rw [show (fa sm s).smax = sm from rfl, show max sm (min sm' 4611686018427387903) = sm' from by omega] at b2
    go_wp2_with (fail)
    go_returns
    exact ⟨rfl, b2, o2.blk b1 hne.symm, (o1.mono (fun k _ h => .inr h)).trans (o2.mono (fun k _ h => .inl h))⟩

theorem sum_one (n : Int) (h : inV n) : sumF [n] = n := by unfold inV at h; simp only [sumF, List.foldl_cons, List.foldl_nil, addF]; omega
theorem spend1 (pA q : Nat) (sm s n : Int) (w : World) (T : TypeId) (h1 : inV sm) (h2 : inV s) (h3 : s ≤ sm) (hn : inV n) (hA : Blk w pA (fa sm s).vals 31) (hq : Blk w q #[.int .u64 n] T) :
    Calls Try.prog 13 #[.pointer (some ⟨pA, 0, none⟩), .slice (some ⟨q, 0, none⟩) 1 1] w fun e w' => e = .returned (.int .i64 (if n ≤ sm - s then 0 else 7)) ∧ Blk w' pA (fa sm (if n ≤ sm - s then s + n else s)).vals 31 ∧ Only (· = pA) w w' := by
  have hn' := hn
  unfold inV at hn
  refine (spend_any pA (fa sm s) (some ⟨q, 0, none⟩) 1 [n] w (by simp [FS.ok, fa, inV] at *; omega) (by simp [maxLen]) (one_ints (WalkArith.wf_u64 (by omega)) q hq) hA).mono ?_
  have e1 : freshF (fa sm s) = sm - s := by simp only [freshF, fa]; omega
  rw [sum_one n hn', spendF, e1]
  rintro e w1 ⟨h, b1, o1⟩
  refine ⟨h, Blk.congr b1 ?_, o1⟩
  split <;> rfl
theorem come1 (pB q : Nat) (sm s r n : Int) (w : World) (T : TypeId) (h1 : inV sm) (h2 : inV s) (h3 : s ≤ sm) (hr : inV r) (hn : inV n) (hB : Blk w pB (fb sm s r).vals 31) (hq : Blk w q #[.int .u64 n] T) :
    Calls Try.prog 14 #[.pointer (some ⟨pB, 0, none⟩), .slice (some ⟨q, 0, none⟩) 1 1] w fun e w' => e = .returned (.int .i64 (if n ≤ sm - s then 0 else 7)) ∧ Blk w' pB (fb sm (if n ≤ sm - s then s + n else s) r).vals 31 ∧ Only (· = pB) w w' := by
  have hn' := hn
  unfold inV at hn
  refine (come_any pB (fb sm s r) (some ⟨q, 0, none⟩) 1 [n] w (by simp [FS.ok, fb, inV] at *; omega) (by simp [maxLen]) (one_ints (WalkArith.wf_u64 (by omega)) q hq) hB).mono ?_
  have e1 : max (fb sm s r).rmax (fb sm s r).came - (fb sm s r).came = sm - s := by simp only [fb]; omega
  rw [sum_one n hn', comeF, e1]
  rintro e w1 ⟨h, b1, o1⟩
  refine ⟨h, Blk.congr b1 ?_, o1⟩
  split <;> rfl
theorem use1 (pB q : Nat) (sm s r n : Int) (w : World) (T : TypeId) (h1 : inV sm) (h2 : inV s) (hr : inV r) (hn : inV n) (hB : Blk w pB (fb sm s r).vals 31) (hq : Blk w q #[.int .u64 n] T) :
    Calls Try.prog 15 #[.pointer (some ⟨pB, 0, none⟩), .slice (some ⟨q, 0, none⟩) 1 1] w fun e w' => e = .returned (.tuple #[]) ∧ Blk w' pB (fb sm s (min (r + n) s)).vals 31 ∧ Only (· = pB) w w' := by
  have hn' := hn
  unfold inV at hn hr h2
  refine (use_any pB (fb sm s r) (some ⟨q, 0, none⟩) 1 [n] w (by simp [FS.ok, fb, inV] at *; omega) (by simp [maxLen]) (one_ints (WalkArith.wf_u64 (by omega)) q hq) hB).mono ?_
  rintro e w1 ⟨h, b1, o1⟩
  refine ⟨h, Blk.congr b1 ?_, o1⟩
  rw [sum_one n hn', useF]
  have e1 : min (sumF [(fb sm s r).read, n]) (fb sm s r).came = min (r + n) s := by simp only [fb, sumF, List.foldl_cons, List.foldl_nil, addF]; omega
  rw [e1]; rfl
theorem fresh1 (pA : Nat) (sm s : Int) (w : World) (h1 : inV sm) (h2 : inV s) (h3 : s ≤ sm) (hA : Blk w pA (fa sm s).vals 31) :
    Calls Try.prog 12 #[.pointer (some ⟨pA, 0, none⟩)] w fun e w' => e = .returned (.int .u64 (sm - s)) ∧ Below w.heap.size w w' := by
  have e1 : freshF (fa sm s) = sm - s := by simp only [freshF, fa]; omega
  have := fresh_any pA (fa sm s) w (by simp [FS.ok, fa, inV] at *; omega) hA
  rw [e1] at this
  exact this

end Flow
end Go.Proofs.Yticnjdlapioppaa
