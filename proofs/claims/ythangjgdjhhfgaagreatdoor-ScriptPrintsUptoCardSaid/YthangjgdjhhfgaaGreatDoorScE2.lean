/- The document's has, field; its line in plain Lean. -/
import Derived.Test.YthangjgdjhhfgaaGreatDoorScE1
import Derived.Test.YthangjgdjhhfgaaGreatDoorScL6
import Derived.Test.YthangjgdjhhfgaaGreatDoorScV1
import Derived.Test.YthangjgdjhhfgaaGreatDoorScV2
namespace Go.Proofs.YthangjgdjhhfgaaGreatDoor
open Go.RowKit
set_option linter.unusedVariables false
set_option maxRecDepth 100000 in
set_option maxHeartbeats 4000000 in
theorem has_any (l : List UInt8) (c : UInt8) (w : World) (hl : l.length ≤ 1000) :
    Calls Tryz.prog 19 #[.string (tx l), .int .u8 c.toNat] w fun x w' => x = .returned (.bool (decide (c ∈ l))) ∧ w = w' := by
  obtain ⟨n, hn⟩ : ∃ n, l.length = n := ⟨_, rfl⟩
  have hsz : (tx l).size = n := by rw [tx_size, hn]
  rw [hn] at hl
  have HN := Lib.hid hn
  obtain ⟨B, hB⟩ : ∃ B, decide (c ∈ l) = B := ⟨_, rfl⟩
  rw [hB]
  have HB := Lib.hid hB
  obtain ⟨m, hm⟩ : ∃ m, c.toNat = m := ⟨_, rfl⟩
  rw [hm]
  have HM := Lib.hid hm
  have HST : Hid (c ∉ l.take 0) := Lib.hid (by simp)
  clear hn hB hm
  go_enter Tryz.func19, Tryz.ntmps19
  go_wp2_with (fail)
  go_loop [5] (fun i => ∃ k : Nat, i = .int .i64 k ∧ k ≤ n ∧ Hid (c ∉ l.take k)) (fun i => n - (intOf i).toNat)
  case atStart => exact ⟨0, rfl, by omega, HST⟩
  case round =>
    obtain ⟨k, rfl, hk, hok⟩ := hrel
    by_cases hlt : k < n
    · have hki : (k : Int) < (n : Int) := by omega
      have hkl : k < l.length := by rw [HN.out]; exact hlt
      obtain ⟨d, hd⟩ : ∃ d, l.getD k 0 = d := ⟨_, rfl⟩
      obtain ⟨q, hq⟩ : ∃ q, d.toNat = q := ⟨_, rfl⟩
      have hmi : ∀ h, (((tx l)[k]'h).toNat : Int) = q := fun h => by rw [tx_get, hd, hq]
      have hmem : d ∈ l := by rw [← hd]; simp [hkl]
      by_cases he : q = m
      · have e1 : ((q : Int) == (m : Int)) = true := by simp; omega
        have hdc : d = c := UInt8.toNat_inj.1 (by rw [hq, he, HM.out])
        have HBT : Hid (B = true) := Lib.hid (by rw [← HB.out, ← hdc]; simpa using hmem)
        clear hd hq hmem he hdc hkl
        go_wp2_with (fail)
        go_returns
        exact ⟨by rw [HBT.out]; rfl, rfl⟩
      · have e1 : ((q : Int) == (m : Int)) = false := by simp; omega
        have hdc : c ≠ d := fun h => he (by rw [← hq, ← h, HM.out])
        have HOK : Hid (c ∉ l.take (k + 1)) := Lib.hid (by
          rw [take_one l k d hkl hd]
          simp only [List.mem_append, List.mem_singleton, not_or]
          exact ⟨hok.out, hdc⟩)
        clear hd hq hmem he hdc hkl
        go_wp2_with (fail)
        exact ⟨⟨k + 1, by go_num, by omega, HOK⟩, by simp [intOf]; omega⟩
    · have hnm := hok.out
      rw [List.take_of_length_le (by rw [HN.out]; omega)] at hnm
      have HBF : Hid (B = false) := Lib.hid (by rw [← HB.out]; simpa using hnm)
      clear hnm
      go_wp2_with (fail)
      go_returns
      exact ⟨by rw [HBF.out]; rfl, rfl⟩
theorem has_yes (l : List UInt8) (c : UInt8) (w : World) (hl : l.length ≤ 1000) (h : c ∈ l) : Calls Tryz.prog 19 #[.string (tx l), .int .u8 c.toNat] w fun x w' => x = .returned (.bool true) ∧ w = w' := by
  have := has_any l c w hl
  rwa [decide_eq_true h] at this
theorem has_no (l : List UInt8) (c : UInt8) (w : World) (hl : l.length ≤ 1000) (h : c ∉ l) : Calls Tryz.prog 19 #[.string (tx l), .int .u8 c.toNat] w fun x w' => x = .returned (.bool false) ∧ w = w' := by
  have := has_any l c w hl
  rwa [decide_eq_false h] at this
/-! ### The line in plain Lean -/
def fieldR (c : UInt8) (m : Mv) : List UInt8 :=
  if c = 115 then dig m.side
  else if c = 110 then wholeS m.n
  else if c = 105 then dig m.id
  else if c = 99 then dig m.code
  else if c = 98 then hexS m.b
  else if c = 102 then dig m.from_
  else if c = 116 then dig m.to_
  else hexS m.d
def condR (l : List UInt8) (m : Mv) : Bool :=
  (!decide (115 ∈ l) && decide (m.side > 0)) || (!decide (110 ∈ l) && decide (m.n ≠ 0)) || (!decide (105 ∈ l) && decide (m.id > 0)) || (!decide (99 ∈ l) && decide (m.code > 0)) || (!decide (98 ∈ l) && decide (m.b.length > 0)) || (!decide (100 ∈ l) && (decide (m.from_ > 0) || decide (m.to_ > 0) || decide (m.d.length > 0)))
def lettersE (k : Nat) : List UInt8 := lettersR.getD k []
def tailR (l : List UInt8) (m : Mv) : List UInt8 := l.flatMap fun c => 32 :: fieldR c m
def lineR (m : Mv) : List UInt8 := if isK m.kind && !condR (lettersE m.kind) m then wordK m.kind ++ tailR (lettersE m.kind) m else []
def letsR : List (List UInt8) := [[], [115, 110], [115, 105, 98], [115, 105], [115, 105, 99], [115, 105, 110], [115], [115, 99, 98], [110], [110, 99], [102, 116, 100]]
theorem letR_mem : ∀ k, k < 27 → 1 ≤ k → lettersE k ∈ letsR := by decide
theorem let_pair : ∀ k, k < 27 → 1 ≤ k → (letK k, lettersE k) ∈ [([], []), ([115, 110], [115, 110]), ([115, 105, 98], [115, 105, 98]), ([115, 105], [115, 105]), ([115, 105, 99], [115, 105, 99]), ([115, 105, 110], [115, 105, 110]), ([115], [115]), ([115, 99, 98], [115, 99, 98]), ([110], [110]), ([110, 99], [110, 99]), ([100], [102, 116, 100])] := by decide
theorem lineR_O (m : Mv) : lineR m = (lineO m).getD [] := by
  unfold lineR lineO
  by_cases hk : isK m.kind = true
  · have hk2 : 1 ≤ m.kind ∧ m.kind ≤ 26 := by simpa [isK] using hk
    have hp := let_pair m.kind (by omega) hk2.1
    rw [hk, Bool.true_and, Bool.true_and]
    have key : (bareM (restM (letK m.kind) m) = !condR (lettersE m.kind) m) ∧ (wordK m.kind ++ tailR (lettersE m.kind) m = joinW (wordK m.kind :: putL (letK m.kind) m)) := by
      generalize letK m.kind = l1 at hp ⊢
      generalize lettersE m.kind = l2 at hp ⊢
      simp only [List.mem_cons, Prod.mk.injEq, List.not_mem_nil, or_false] at hp
      rcases hp with ⟨rfl, rfl⟩ | ⟨rfl, rfl⟩ | ⟨rfl, rfl⟩ | ⟨rfl, rfl⟩ | ⟨rfl, rfl⟩ | ⟨rfl, rfl⟩ | ⟨rfl, rfl⟩ | ⟨rfl, rfl⟩ | ⟨rfl, rfl⟩ | ⟨rfl, rfl⟩ | ⟨rfl, rfl⟩
      all_goals
        constructor
        · rw [Bool.eq_iff_iff]
          simp only [bareM, restM, clearM, condR]
          have eb : ∀ l : List UInt8, (0 < l.length) = (l ≠ []) := fun l => by simp [List.length_pos_iff]
          simp [eb]
          try grind
        · simp [tailR, fieldR, putL, fieldS, clearM, joinW_cons, joinW_one]
    rw [key.1, key.2]
    by_cases hc : (!condR (lettersE m.kind) m) = true
    · rw [if_pos hc, if_pos hc]; rfl
    · rw [if_neg hc, if_neg hc]; rfl
  · have hk' : isK m.kind = false := by simpa using hk
    rw [hk', Bool.false_and, Bool.false_and]; rfl
theorem lineO_ne {m : Mv} {s : List UInt8} (h : lineO m = some s) : s ≠ [] := by
  unfold lineO at h
  split at h
  · rename_i hk
    cases h
    simp only [Bool.and_eq_true] at hk
    have hk2 : 1 ≤ m.kind ∧ m.kind ≤ 26 := by simpa [isK] using hk.1
    have hw := (wordK_clean m.kind (by omega) hk2.1).1
    intro e
    cases hp : putL (letK m.kind) m with
    | nil => rw [hp, joinW_one] at e; exact hw e
    | cons a r => rw [hp, joinW_cons] at e; simp at e
  · cases h
end Go.Proofs.YthangjgdjhhfgaaGreatDoor
