/- Texts of events in plain Lean: digits, numbers, pieces, lines. No program here. -/
import Derived.Lib.SplitLaws
import Derived.Lib.ParseIntB
import Derived.Lib.Itoa
namespace Go.Proofs.YthangjgdjhhfgaaGreatDoor
set_option linter.unusedVariables false

/-! ### Digits -/
def dg1 (n : Nat) : UInt8 := UInt8.ofNat (48 + n % 10)
def digF : Nat → Nat → List UInt8
  | 0, n => [dg1 n]
  | k + 1, n => if n < 10 then [dg1 n] else digF k (n / 10) ++ [dg1 n]
/-- A number's digits (of at most 40 places). -/
def dig (n : Nat) : List UInt8 := digF 40 n
theorem digF_more : ∀ (k n : Nat), n < 10 ^ (k + 1) → digF k n = digF (k + 1) n
  | 0, n, h => by
    have : n < 10 := by simpa using h
    simp [digF, this]
  | k + 1, n, h => by
    rw [digF, digF]
    by_cases h1 : n < 10
    · simp [h1]
    · rw [if_neg h1, if_neg h1, digF_more k (n / 10) (by rw [Nat.pow_succ] at h; omega)]
theorem digF_any {k m n : Nat} (h : n < 10 ^ (k + 1)) (hm : k ≤ m) : digF k n = digF m n := by
  induction m with
  | zero => obtain rfl : k = 0 := by omega
            rfl
  | succ m ih =>
    by_cases he : k = m + 1
    · rw [he]
    · have hk : k ≤ m := by omega
      rw [ih hk]
      exact digF_more m n (Nat.lt_of_lt_of_le h (Nat.pow_le_pow_right (by omega) (by omega)))
theorem dig_small {n : Nat} (h : n < 10) : dig n = [dg1 n] := by simp [dig, digF, h]
theorem dig_big {n : Nat} (h : ¬ n < 10) (hn : n < 10 ^ 40) : dig n = dig (n / 10) ++ [dg1 n] := by
  unfold dig
  rw [show (40 : Nat) = 39 + 1 from rfl, digF, if_neg h]
  rw [digF_any (k := 39) (m := 39 + 1) (n := n / 10) (by omega) (by omega)]
theorem dig_ne (n : Nat) : dig n ≠ [] := by
  unfold dig
  rw [show (40 : Nat) = 39 + 1 from rfl, digF]
  split <;> simp
theorem digF_len : ∀ (k n : Nat), (digF k n).length ≤ k + 1
  | 0, n => by simp [digF]
  | k + 1, n => by
    rw [digF]; split
    · simp
    · have := digF_len k (n / 10)
      simp; omega
theorem dig_len {n : Nat} (h : n ≤ 18446744073709551615) : (dig n).length ≤ 20 := by
  have e : dig n = digF 19 n := (digF_any (by omega) (by omega)).symm
  rw [e]
  exact digF_len 19 n

/-! ### Numbers -/
def isDig (c : UInt8) : Bool := decide (48 ≤ c.toNat ∧ c.toNat ≤ 57)
def valF (acc : Nat) : List UInt8 → Nat
  | [] => acc
  | c :: r => valF (acc * 10 + (c.toNat - 48)) r
def allDig (l : List UInt8) : Bool := l.all isDig
theorem valF_le : ∀ (l : List UInt8) (acc : Nat), acc ≤ valF acc l
  | [], acc => Nat.le_refl _
  | c :: r, acc => by
    have := valF_le r (acc * 10 + (c.toNat - 48))
    show acc ≤ valF (acc * 10 + (c.toNat - 48)) r
    omega
theorem valF_snoc (l : List UInt8) (c : UInt8) : ∀ acc, valF acc (l ++ [c]) = valF acc l * 10 + (c.toNat - 48) := by
  induction l with
  | nil => intro acc; rfl
  | cons d r ih => intro acc; exact ih _
abbrev M64 : Nat := 18446744073709551615
/-- The document's loop. -/
def refLoop (M acc : Nat) : List UInt8 → Option Nat
  | [] => some acc
  | c :: r => if c.toNat < 48 ∨ c.toNat > 57 then none else if acc > (M - (c.toNat - 48)) / 10 then none else refLoop M (10 * acc + (c.toNat - 48)) r
def refNum (l : List UInt8) : Option Nat := if l.length = 0 ∨ l.length > 20 ∨ (l.head? = some 48 ∧ l.length > 1) then none else refLoop M64 0 l
theorem refLoop_iff (M : Nat) (hM : 9 ≤ M) : ∀ (l : List UInt8) (acc n : Nat), acc ≤ M → (refLoop M acc l = some n ↔ allDig l = true ∧ valF acc l = n ∧ n ≤ M)
  | [], acc, n, ha => by
    show some acc = some n ↔ true = true ∧ acc = n ∧ n ≤ M
    constructor
    · intro h; cases h; exact ⟨rfl, rfl, ha⟩
    · rintro ⟨_, rfl, _⟩; rfl
  | c :: r, acc, n, ha => by
    rw [refLoop]
    by_cases h1 : c.toNat < 48 ∨ c.toNat > 57
    · rw [if_pos h1]
      have : isDig c = false := by simp only [isDig, decide_eq_false_iff_not]; omega
      simp [allDig, this]
    · rw [if_neg h1]
      have hd : isDig c = true := by simp only [isDig, decide_eq_true_eq]; omega
      have hall : allDig (c :: r) = allDig r := by simp [allDig, hd]
      have hv : valF acc (c :: r) = valF (10 * acc + (c.toNat - 48)) r := by rw [Nat.mul_comm]; rfl
      rw [hall, hv]
      by_cases h2 : acc > (M - (c.toNat - 48)) / 10
      · rw [if_pos h2]
        constructor
        · intro h; cases h
        · rintro ⟨_, h3, h4⟩
          have := valF_le r (10 * acc + (c.toNat - 48))
          omega
      · rw [if_neg h2]
        exact refLoop_iff M hM r _ n (by omega)
theorem parseM_iff : ∀ (l : List UInt8) (acc n : Nat), acc ≤ M64 → (Lib.parseUintM M64 acc l = .ok n ↔ allDig l = true ∧ valF acc l = n ∧ n ≤ M64)
  | [], acc, n, ha => by
    show Lib.NumEnd.ok acc = .ok n ↔ true = true ∧ acc = n ∧ n ≤ M64
    constructor
    · intro h; cases h; exact ⟨rfl, rfl, ha⟩
    · rintro ⟨_, rfl, _⟩; rfl
  | c :: r, acc, n, ha => by
    rw [Lib.parseUintM]
    by_cases h1 : 48 ≤ c.toNat ∧ c.toNat ≤ 57
    · rw [if_pos h1]
      have hd : isDig c = true := by simpa [isDig] using h1
      have hall : allDig (c :: r) = allDig r := by simp [allDig, hd]
      have hv : valF acc (c :: r) = valF (acc * 10 + (c.toNat - 48)) r := rfl
      rw [hall, hv]
      have hle := valF_le r (acc * 10 + (c.toNat - 48))
      by_cases h2 : 1844674407370955162 ≤ acc
      · rw [if_pos h2]
        constructor
        · intro h; cases h
        · rintro ⟨_, h3, h4⟩; simp only [M64] at *; omega
      · rw [if_neg h2]
        by_cases h3 : M64 < acc * 10 + (c.toNat - 48)
        · rw [if_pos h3]
          constructor
          · intro h; cases h
          · rintro ⟨_, h4, h5⟩; omega
        · rw [if_neg h3]
          exact parseM_iff r _ n (by omega)
    · rw [if_neg h1]
      have hd : isDig c = false := by simpa [isDig] using h1
      simp [allDig, hd]
theorem parseB_iff (l : List UInt8) (n : Nat) : Lib.parseUintB 64 l = .ok n ↔ l ≠ [] ∧ allDig l = true ∧ valF 0 l = n ∧ n ≤ M64 := by
  unfold Lib.parseUintB
  by_cases h : l = []
  · simp [h]
  · rw [if_neg h]
    have := parseM_iff l 0 n (by omega)
    rw [show (2 ^ 64 - 1 : Nat) = M64 by decide, this]
    simp [h]
theorem dg1_nat (n : Nat) : (dg1 n).toNat = 48 + n % 10 := by
  unfold dg1
  rw [UInt8.toNat_ofNat']
  omega
theorem dg1_of {c : UInt8} {m : Nat} (h : isDig c = true) : dg1 (m * 10 + (c.toNat - 48)) = c := by
  simp only [isDig, decide_eq_true_eq] at h
  apply UInt8.toNat_inj.1
  rw [dg1_nat]
  omega
/-- Digits that begin with none, or are one alone, are the number's. -/
theorem dig_val (l : List UInt8) : ∀ (k : Nat), l.length ≤ k → l ≠ [] → allDig l = true → (l.head? = some 48 → l.length = 1) → valF 0 l < 10 ^ 40 → dig (valF 0 l) = l ∧ (l.head? ≠ some 48 → valF 0 l ≠ 0) := by
  intro k
  induction k generalizing l with
  | zero => intro h h1; cases l with
    | nil => exact absurd rfl h1
    | cons _ _ => simp at h
  | succ k ih =>
    intro hk hne hall hh hv
    obtain ⟨l', c, rfl⟩ : ∃ l' c, l = l' ++ [c] := ⟨l.dropLast, l.getLast hne, (List.dropLast_concat_getLast hne).symm⟩
    rw [valF_snoc] at hv ⊢
    have hdc : isDig c = true ∧ allDig l' = true := by simpa [allDig, and_comm] using hall
    have hc : 48 ≤ c.toNat ∧ c.toNat ≤ 57 := by simpa [isDig] using hdc.1
    by_cases hl : l' = []
    · subst hl
      rw [show valF 0 [] = 0 from rfl]
      refine ⟨?_, ?_⟩
      · rw [dig_small (by omega), dg1_of hdc.1]; rfl
      · intro h
        have hc48 : c ≠ 48 := by simpa using h
        intro h0
        apply hc48
        apply UInt8.toNat_inj.1
        show c.toNat = 48
        omega
    · have hhead : (l' ++ [c]).head? = l'.head? := by cases l' with
        | nil => exact absurd rfl hl
        | cons _ _ => rfl
      have hlen : (l' ++ [c]).length ≠ 1 := by cases l' with
        | nil => exact absurd rfl hl
        | cons _ _ => simp
      have h48 : l'.head? ≠ some 48 := fun h => hlen (hh (by rw [hhead, h]))
      obtain ⟨h1, h2⟩ := ih l' (by simp at hk; omega) hl hdc.2 (fun h => absurd h h48) (by omega)
      have h3 := h2 h48
      have h4 : ¬ valF 0 l' * 10 + (c.toNat - 48) < 10 := by omega
      refine ⟨?_, fun _ => by omega⟩
      rw [dig_big h4 hv, dg1_of hdc.1, show (valF 0 l' * 10 + (c.toNat - 48)) / 10 = valF 0 l' by omega, h1]
theorem dig_head : ∀ (k n : Nat), n < 10 ^ (k + 1) → (digF k n).head? = some 48 → (digF k n).length = 1
  | 0, n, _, _ => by simp [digF]
  | k + 1, n, hn, h => by
    rw [digF] at h ⊢
    by_cases h1 : n < 10
    · simp [h1]
    · rw [if_neg h1] at h ⊢
      exfalso
      have hne : digF k (n / 10) ≠ [] := by cases k with
        | zero => simp [digF]
        | succ k => rw [digF]; split <;> simp
      have hh : (digF k (n / 10) ++ [dg1 n]).head? = (digF k (n / 10)).head? := by cases hq : digF k (n / 10) with
        | nil => exact absurd hq hne
        | cons _ _ => rfl
      rw [hh] at h
      have hn2 : n / 10 < 10 ^ (k + 1) := by rw [Nat.pow_succ] at hn; omega
      have hl := dig_head k (n / 10) hn2 h
      have : digF k (n / 10) = [dg1 (n / 10)] ∧ n / 10 < 10 := by
        cases k with
        | zero => exact ⟨rfl, by simpa using hn2⟩
        | succ k =>
          rw [digF] at hl ⊢
          by_cases h5 : n / 10 < 10
          · rw [if_pos h5]; exact ⟨rfl, h5⟩
          · rw [if_neg h5] at hl
            have : digF k (n / 10 / 10) ≠ [] := by cases k with
              | zero => simp [digF]
              | succ k => rw [digF]; split <;> simp
            simp at hl
            exact absurd hl this
      rw [this.1] at h
      have h7 : dg1 (n / 10) = 48 := by simpa using h
      have h8 := congrArg UInt8.toNat h7
      rw [dg1_nat] at h8
      have h9 : (48 : UInt8).toNat = 48 := rfl
      omega
/-- What the program asks of a number's text is what the document asks. -/
theorem num_iff (l : List UInt8) (n : Nat) : refNum l = some n ↔ Lib.parseUintB 64 l = .ok n ∧ dig n = l := by
  rw [parseB_iff]
  unfold refNum
  constructor
  · intro h
    split at h
    · cases h
    · rename_i h1
      rw [refLoop_iff M64 (by decide) l 0 n (by omega)] at h
      obtain ⟨h2, h3, h4⟩ := h
      have hne : l ≠ [] := fun e => h1 (.inl (by simp [e]))
      refine ⟨⟨hne, h2, h3, h4⟩, ?_⟩
      have := (dig_val l l.length (Nat.le_refl _) hne h2 (fun hh => by
        have : ¬ l.length > 1 := fun hl => h1 (.inr (.inr ⟨hh, hl⟩))
        have := List.length_pos_iff.2 hne
        omega) (by rw [h3]; simp only [M64] at h4; omega)).1
      rw [h3] at this
      exact this
  · rintro ⟨⟨h1, h2, h3, h4⟩, h5⟩
    have hlen := dig_len h4
    rw [h5] at hlen
    have hpos := List.length_pos_iff.2 h1
    have hhead : l.head? = some 48 → l.length = 1 := by
      intro hh
      rw [← h5] at hh ⊢
      exact dig_head 40 n (by simp only [M64] at h4; omega) hh
    rw [if_neg (by rintro (h | h | ⟨h, h'⟩)
                   · omega
                   · omega
                   · have := hhead h; omega), refLoop_iff M64 (by decide) l 0 n (by omega)]
    exact ⟨h2, h3, h4⟩

/-! ### Pieces -/
/-- The pieces of a text between bytes c; the piece that is under way first. -/
def pcsA (c : UInt8) (acc : List UInt8) : List UInt8 → List (List UInt8)
  | [] => [acc]
  | x :: l => if x = c then acc :: pcsA c [] l else pcsA c (acc ++ [x]) l
def pcs (c : UInt8) (l : List UInt8) : List (List UInt8) := pcsA c [] l
theorem tw_mem {c x : UInt8} : ∀ {l : List UInt8}, x ∈ l.takeWhile (· ≠ c) → x ≠ c
  | [], h => by simp at h
  | y :: l, h => by
    by_cases hy : y = c
    · subst hy; simp at h
    · rw [List.takeWhile_cons_of_pos (by simpa using hy)] at h
      rcases List.mem_cons.1 h with rfl | h
      · exact hy
      · exact tw_mem h
theorem index_one (c : UInt8) : ∀ (l : List UInt8), Lib.index l [c] = if c ∈ l then ((l.takeWhile (· ≠ c)).length : Int) else -1
  | [] => by simp [Lib.index]
  | x :: l => by
    rw [Lib.index, index_one c l]
    by_cases h : x = c
    · subst h; simp [List.isPrefixOf]
    · have h1 : ([c] : List UInt8).isPrefixOf (x :: l) = false := by simp [List.isPrefixOf, Ne.symm h]
      rw [h1]
      by_cases h2 : c ∈ l
      · simp [h2, h, Ne.symm h]
      · simp [h2, Ne.symm h]
theorem pcsA_none (c : UInt8) : ∀ (l acc : List UInt8), c ∉ l → pcsA c acc l = [acc ++ l]
  | [], acc, _ => by simp [pcsA]
  | x :: l, acc, h => by
    have h1 : x ≠ c := fun e => h (by simp [e])
    rw [pcsA, if_neg h1, pcsA_none c l _ (fun hh => h (List.mem_cons_of_mem _ hh))]
    simp
theorem pcsA_some (c : UInt8) : ∀ (l acc : List UInt8), c ∈ l → pcsA c acc l = (acc ++ l.takeWhile (· ≠ c)) :: pcs c (l.drop ((l.takeWhile (· ≠ c)).length + 1))
  | [], acc, h => by simp at h
  | x :: l, acc, h => by
    rw [pcsA]
    by_cases h1 : x = c
    · subst h1; simp [pcs]
    · rw [if_neg h1, pcsA_some c l _ (by simpa [Ne.symm h1] using h)]
      simp [h1]
theorem split_pcs (c : UInt8) : ∀ (k : Nat) (l : List UInt8), l.length ≤ k → Lib.split l [c] = pcs c l
  | k, l, hk => by
    unfold Lib.split
    rw [Lib.count_one]
    by_cases h : c ∈ l
    · have hc : 0 < l.count c := List.count_pos_iff.2 h
      obtain ⟨m, hm⟩ : ∃ m, l.count c = m + 1 := ⟨l.count c - 1, by omega⟩
      have hix := index_one c l
      rw [if_pos h] at hix
      rw [hm, Lib.splitK, if_neg (by rw [hix]; simp), hix, pcs, pcsA_some c l [] h]
      have hlt : (l.takeWhile (· ≠ c)).length < l.length := by
        have h1 : (l.takeWhile (· ≠ c)).length ≤ l.length := (List.takeWhile_sublist _).length_le
        rcases Nat.lt_or_eq_of_le h1 with h2 | h2
        · exact h2
        · exfalso
          have h3 : l.takeWhile (· ≠ c) = l := (List.takeWhile_sublist _).eq_of_length h2
          have := tw_mem (h3.symm ▸ h : c ∈ l.takeWhile (· ≠ c))
          simp at this
      have hdw : l = l.takeWhile (· ≠ c) ++ c :: l.drop ((l.takeWhile (· ≠ c)).length + 1) := by
        have h5 := List.takeWhile_append_dropWhile (p := (· ≠ c)) (l := l)
        have h6 : l.dropWhile (· ≠ c) = l.drop (l.takeWhile (· ≠ c)).length := by
          conv => rhs; rw [← h5]
          rw [List.drop_append_of_le_length (by simp [])]
          simp
        have h7 : l[(l.takeWhile (· ≠ c)).length]? = some c := by
          have h8 : l.dropWhile (· ≠ c) ≠ [] := by
            intro he
            rw [he, List.append_nil] at h5
            rw [h5] at hlt
            omega
          have h9 := List.head_dropWhile_not (· ≠ c) h8
          have h10 : (l.dropWhile (· ≠ c)).head h8 = c := by simpa using h9
          rw [← List.head?_drop, ← h6, List.head?_eq_some_head h8, h10]
        conv => lhs; rw [← h5]
        rw [h6, List.drop_eq_getElem?_toList_append, h7]
        rfl
      have hcnt : (l.drop ((l.takeWhile (· ≠ c)).length + 1)).count c = m := by
        have h1 := congrArg (List.count c) hdw
        rw [List.count_append, List.count_cons_self, hm] at h1
        have h2 : (l.takeWhile (· ≠ c)).count c = 0 := by
          rw [List.count_eq_zero]
          intro hh
          have := tw_mem hh
          simp at this
        omega
      have ih := split_pcs c (k - 1) (l.drop ((l.takeWhile (· ≠ c)).length + 1)) (by simp; omega)
      unfold Lib.split at ih
      rw [Lib.count_one, hcnt] at ih
      simp only [Int.toNat_natCast, Nat.add_zero, List.length_singleton, List.nil_append]
      rw [ih]
      congr 1
      exact (List.prefix_iff_eq_take.1 (List.takeWhile_prefix _)).symm
    · have hc : l.count c = 0 := List.count_eq_zero.2 h
      rw [hc, Lib.splitK, pcs, pcsA_none c l [] h]
      rfl
termination_by k => k
decreasing_by
  have h1 : (l.takeWhile (· ≠ c)).length ≤ l.length := (List.takeWhile_sublist _).length_le
  have h2 : 0 < l.length := List.length_pos_iff.2 (fun e => by simp [e] at h)
  omega
end Go.Proofs.YthangjgdjhhfgaaGreatDoor
