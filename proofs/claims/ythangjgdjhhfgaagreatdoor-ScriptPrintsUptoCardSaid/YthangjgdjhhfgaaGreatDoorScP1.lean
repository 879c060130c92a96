/- Scripts in plain Lean: numbers of so many bits, whole numbers, halves of bytes, words. No program here. -/
import Derived.Test.YthangjgdjhhfgaaGreatDoorTxP
import Derived.Lib.AtoiAll
import Derived.Lib.ItoaNum
namespace Go.Proofs.YthangjgdjhhfgaaGreatDoor
set_option linter.unusedVariables false

/-! ### Numbers -/
def numM (M : Nat) (l : List UInt8) : Option Nat := if l.length = 0 ∨ l.length > 20 ∨ (l.head? = some 48 ∧ l.length > 1) then none else refLoop M 0 l
theorem parseMM_iff (M : Nat) (hM : M ≤ M64) : ∀ (l : List UInt8) (acc n : Nat), acc ≤ M → (Lib.parseUintM M acc l = .ok n ↔ allDig l = true ∧ valF acc l = n ∧ n ≤ M)
  | [], acc, n, ha => by
    show Lib.NumEnd.ok acc = .ok n ↔ true = true ∧ acc = n ∧ n ≤ M
    constructor
    · intro h; cases h; exact ⟨rfl, rfl, ha⟩
    · rintro ⟨_, rfl, _⟩; rfl
  | c :: r, acc, n, ha => by
    rw [Lib.parseUintM]
    by_cases h1 : 48 ≤ c.toNat ∧ c.toNat ≤ 57
    · rw [if_pos h1]
      have hd : isDig c = true := by simpa [isDig] using h1
      have hall : allDig (c :: r) = allDig r := by simp [allDig, hd]
      have hv : valF acc (c :: r) = valF (acc * 10 + (c.toNat - 48)) r := rfl
      rw [hall, hv]
      have hle := valF_le r (acc * 10 + (c.toNat - 48))
      by_cases h2 : 1844674407370955162 ≤ acc
      · rw [if_pos h2]
        constructor
        · intro h; cases h
        · rintro ⟨_, h3, h4⟩; simp only [M64] at *; omega
      · rw [if_neg h2]
        by_cases h3 : M < acc * 10 + (c.toNat - 48)
        · rw [if_pos h3]
          constructor
          · intro h; cases h
          · rintro ⟨_, h4, h5⟩; omega
        · rw [if_neg h3]
          exact parseMM_iff M hM r _ n (by omega)
    · rw [if_neg h1]
      have hd : isDig c = false := by simpa [isDig] using h1
      simp [allDig, hd]
/-- A number is read, and written as it was read. -/
theorem numM_iff (M : Nat) (h9 : 9 ≤ M) (hM : M ≤ M64) (l : List UInt8) (n : Nat) : numM M l = some n ↔ (l ≠ [] ∧ Lib.parseUintM M 0 l = .ok n) ∧ dig n = l := by
  rw [parseMM_iff M hM l 0 n (by omega)]
  unfold numM
  constructor
  · intro h
    split at h
    · cases h
    · rename_i h1
      rw [refLoop_iff M h9 l 0 n (by omega)] at h
      obtain ⟨h2, h3, h4⟩ := h
      have hne : l ≠ [] := fun e => h1 (.inl (by simp [e]))
      refine ⟨⟨hne, h2, h3, h4⟩, ?_⟩
      have := (dig_val l l.length (Nat.le_refl _) hne h2 (fun hh => by
        have : ¬ l.length > 1 := fun hl => h1 (.inr (.inr ⟨hh, hl⟩))
        have := List.length_pos_iff.2 hne
        omega) (by rw [h3]; simp only [M64] at hM; omega)).1
      rw [h3] at this
      exact this
  · rintro ⟨⟨h1, h2, h3, h4⟩, h5⟩
    have hn64 : n ≤ 18446744073709551615 := by simp only [M64] at hM; omega
    have hlen := dig_len hn64
    rw [h5] at hlen
    have hpos := List.length_pos_iff.2 h1
    have hhead : l.head? = some 48 → l.length = 1 := by
      intro hh
      rw [← h5] at hh ⊢
      exact dig_head 40 n (by omega) hh
    rw [if_neg (by rintro (h | h | ⟨h, h'⟩)
                   · omega
                   · omega
                   · have := hhead h; omega), refLoop_iff M h9 l 0 n (by omega)]
    exact ⟨h2, h3, h4⟩
theorem parseB_M (B : Nat) (l : List UInt8) (n : Nat) : Lib.parseUintB B l = .ok n ↔ l ≠ [] ∧ Lib.parseUintM (2 ^ B - 1) 0 l = .ok n := by
  unfold Lib.parseUintB
  by_cases h : l = []
  · simp [h]
  · simp [h]
theorem numM_dig {M n : Nat} (h9 : 9 ≤ M) (hM : M ≤ M64) (hn : n ≤ M) : numM M (dig n) = some n := by
  have hd : ∀ k n, n < 10 ^ (k + 1) → allDig (digF k n) = true ∧ valF 0 (digF k n) = n := by
    intro k
    induction k with
    | zero =>
      intro n hn
      have hn' : n < 10 := by simpa using hn
      have h1 := dg1_nat n
      refine ⟨by simp [digF, allDig, isDig, h1]; omega, ?_⟩
      show 0 * 10 + ((dg1 n).toNat - 48) = n
      omega
    | succ k ih =>
      intro n hn
      rw [digF]
      have h1 := dg1_nat n
      split
      · refine ⟨by simp [allDig, isDig, h1]; omega, ?_⟩
        show 0 * 10 + ((dg1 n).toNat - 48) = n
        omega
      · obtain ⟨h2, h3⟩ := ih (n / 10) (by rw [Nat.pow_succ] at hn; omega)
        refine ⟨?_, ?_⟩
        · simp only [allDig, List.all_append, Bool.and_eq_true] at h2 ⊢
          exact ⟨h2, by simp [isDig, h1]; omega⟩
        · rw [valF_snoc, h3]; omega
  have hn40 : n < 10 ^ 41 := by simp only [M64] at hM; omega
  obtain ⟨h1, h2⟩ := hd 40 n hn40
  rw [numM_iff M h9 hM, parseMM_iff M hM _ 0 n (by omega)]
  exact ⟨⟨dig_ne n, h1, h2, hn⟩, rfl⟩
/-! ### Whole numbers -/
def wholeS (n : Int) : List UInt8 := if n < 0 then 45 :: dig n.natAbs else dig n.toNat
def intO (l : List UInt8) : Option Int :=
  if l.head? = some 45 then (match numM 9223372036854775808 l.tail with | some n => if n > 0 then some (-(n : Int)) else none | none => none)
  else (numM 9223372036854775807 l).map fun (n : Nat) => (n : Int)
theorem dig_noMinus (n : Nat) : (dig n).head? ≠ some 45 := by
  intro h
  have hall : ∀ k n, ∀ c ∈ digF k n, 48 ≤ c.toNat := by
    intro k
    induction k with
    | zero => intro n c hc; simp [digF] at hc; subst hc; rw [dg1_nat]; omega
    | succ k ih =>
      intro n c hc
      rw [digF] at hc
      split at hc
      · simp at hc; subst hc; rw [dg1_nat]; omega
      · rcases List.mem_append.1 hc with hc | hc
        · exact ih _ c hc
        · simp at hc; subst hc; rw [dg1_nat]; omega
  have := hall 40 n 45 (List.mem_of_mem_head? h)
  simp at this
theorem parse10_M : ∀ (l : List UInt8) (acc : Nat), Lib.parseUint10 acc l = Lib.parseUintM M64 acc l
  | [], acc => rfl
  | c :: r, acc => by
    rw [Lib.parseUint10, Lib.parseUintM]
    split
    · split
      · rfl
      · by_cases h : 18446744073709551616 ≤ acc * 10 + (c.toNat - 48)
        · rw [if_pos h, if_pos (by simp only [M64]; omega)]
        · rw [if_neg h, if_neg (by simp only [M64]; omega), parse10_M r]
    · rfl
theorem mag_iff (l : List UInt8) (u : Nat) : Lib.parseMag l = .ok u ↔ l ≠ [] ∧ Lib.parseUintM M64 0 l = .ok u := by
  unfold Lib.parseMag
  by_cases h : l = []
  · simp [h]
  · simp [h, parse10_M]
theorem int_iff (l : List UInt8) (n : Int) : intO l = some n ↔ Lib.atoiAll l = .ok n ∧ wholeS n = l := by
  have hb : (9223372036854775808 : Nat) ≤ M64 := by decide
  have hb' : (9223372036854775807 : Nat) ≤ M64 := by decide
  constructor
  · intro h
    unfold intO at h
    split at h
    · rename_i h45
      obtain ⟨r, rfl⟩ : ∃ r, l = 45 :: r := by cases l with
        | nil => simp at h45
        | cons c r => simp at h45; exact ⟨r, by rw [h45]⟩
      simp only [List.tail_cons] at h
      split at h
      · rename_i m hm
        split at h
        · rename_i hpos
          cases h
          obtain ⟨⟨h1, h2⟩, h3⟩ := (numM_iff _ (by decide) hb r m).1 hm
          have h4 := ((parseMM_iff _ hb r 0 m (by omega)).1 h2)
          have h5 : Lib.parseMag r = .ok m := (mag_iff r m).2 ⟨h1, (parseMM_iff M64 (Nat.le_refl _) r 0 m (by omega)).2 ⟨h4.1, h4.2.1, by simp only [M64]; omega⟩⟩
          refine ⟨?_, ?_⟩
          · simp only [Lib.atoiAll]
            rw [show (45 : UInt8).toNat = 45 from rfl]
            simp only [or_true, if_true, h5]
            simp; omega
          · unfold wholeS
            rw [if_pos (by omega)]
            simp [h3]
        · cases h
      · cases h
    · rename_i h45
      cases hm : numM 9223372036854775807 l with
      | none => rw [hm] at h; cases h
      | some m =>
        rw [hm] at h
        simp only [Option.map_some, Option.some.injEq] at h
        subst h
        obtain ⟨⟨h1, h2⟩, h3⟩ := (numM_iff _ (by decide) hb' l m).1 hm
        have h4 := ((parseMM_iff _ hb' l 0 m (by omega)).1 h2)
        have h5 : Lib.parseMag l = .ok m := (mag_iff l m).2 ⟨h1, (parseMM_iff M64 (Nat.le_refl _) l 0 m (by omega)).2 ⟨h4.1, h4.2.1, by simp only [M64]; omega⟩⟩
        refine ⟨?_, ?_⟩
        · cases l with
          | nil => exact absurd rfl h1
          | cons c r =>
            have hd : isDig c = true := by have := h4.1; simp [allDig] at this; exact this.1
            have hc : 48 ≤ c.toNat ∧ c.toNat ≤ 57 := by simpa [isDig] using hd
            simp only [Lib.atoiAll]
            rw [if_neg (by omega), h5]
            simp only
            rw [if_neg (by omega), if_neg (by omega), if_neg (by omega)]
        · unfold wholeS
          rw [if_neg (by omega)]
          simpa using h3
  · rintro ⟨h1, h2⟩
    unfold wholeS at h2
    by_cases hn : n < 0
    · rw [if_pos hn] at h2
      subst h2
      simp only [Lib.atoiAll] at h1
      rw [show (45 : UInt8).toNat = 45 from rfl] at h1
      simp only [or_true, if_true] at h1
      cases hm : Lib.parseMag (dig n.natAbs) with
      | range => rw [hm] at h1; cases h1
      | ok u =>
        rw [hm] at h1
        simp at h1
        split at h1
        · cases h1
        · rename_i hu
          have hnu : n = -(u : Int) := by simpa using h1.symm
          have hua : n.natAbs = u := by omega
          unfold intO
          rw [if_pos (show (45 :: dig n.natAbs).head? = some 45 from rfl)]
          simp only [List.tail_cons, hua]
          rw [numM_dig (by decide) hb (by omega)]
          simp only
          rw [if_pos (by omega), hnu]
      | _ => rw [hm] at h1; cases h1
    · rw [if_neg hn] at h2
      obtain ⟨m, rfl⟩ : ∃ m : Nat, n = m := ⟨n.toNat, by omega⟩
      simp only [Int.toNat_natCast] at h2
      subst h2
      have hnm := dig_noMinus m
      unfold intO
      rw [if_neg hnm]
      cases hl : dig m with
      | nil => exact absurd hl (dig_ne m)
      | cons c r =>
        rw [hl] at h1 hnm
        have hc45 : c.toNat ≠ 45 := by
          intro e
          apply hnm
          simp
          exact UInt8.toNat_inj.1 e
        simp only [Lib.atoiAll] at h1
        split at h1
        · cases h1
        · cases h1
        · rename_i u hu
          split at h1
          · cases h1
          · rename_i hlt
            simp only [hc45, false_and, if_false] at h1
            have hmu : m = u := by injection h1 with h1; omega
            rw [← hl, numM_dig (by decide) hb' (by omega)]
            rfl
end Go.Proofs.YthangjgdjhhfgaaGreatDoor
