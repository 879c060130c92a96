/- The numbers of layer 1 in plain Lean: classes, bytes, what is taken. -/
import Derived.Test.YtcpjehgoeibbeaaBytes
namespace Go.Proofs.Ytcpjehgoeibbeaa
open Go.RowKit
set_option linter.unusedVariables false
namespace Var

def classF (n : Int) : Nat := if n ≤ 63 then 0 else if n ≤ 16383 then 1 else if n ≤ 1073741823 then 2 else if n ≤ 4611686018427387903 then 3 else 4
def sizeF (n : Int) : Nat := if classF n < 4 then 2 ^ classF n else 0
/-- A number's bytes. -/
def enc (n : Int) : List Int :=
  match classF n with
  | 0 => [n]
  | 1 => [64 + n / 256, n % 256]
  | 2 => [128 + n / 16777216, n / 65536 % 256, n / 256 % 256, n % 256]
  | 3 => [192 + n / 72057594037927936, n / 281474976710656 % 256, n / 1099511627776 % 256, n / 4294967296 % 256, n / 16777216 % 256, n / 65536 % 256, n / 256 % 256, n % 256]
  | _ => []
def takeF : List Int → Option (Int × Nat)
  | [] => none
  | x :: r => if r.length + 1 < 2 ^ (x / 64).toNat then none else some ((r.take (2 ^ (x / 64).toNat - 1)).foldl (fun a c => a * 256 + c) (x % 64), 2 ^ (x / 64).toNat)
def Byte (x : Int) : Prop := 0 ≤ x ∧ x ≤ 255

theorem class_cases (n : Int) (h0 : 0 ≤ n) : (classF n = 0 ∧ n ≤ 63) ∨ (classF n = 1 ∧ 63 < n ∧ n ≤ 16383) ∨ (classF n = 2 ∧ 16383 < n ∧ n ≤ 1073741823) ∨ (classF n = 3 ∧ 1073741823 < n ∧ n ≤ 4611686018427387903) ∨ (classF n = 4 ∧ 4611686018427387903 < n) := by
  unfold classF
  split
  · left; omega
  · split
    · right; left; omega
    · split
      · right; right; left; omega
      · split
        · right; right; right; left; omega
        · right; right; right; right; omega

theorem enc_length (n : Int) (h0 : 0 ≤ n) : (enc n).length = sizeF n := by
  unfold enc sizeF
  rcases class_cases n h0 with ⟨h, _⟩ | ⟨h, _⟩ | ⟨h, _⟩ | ⟨h, _⟩ | ⟨h, _⟩ <;> rw [h] <;> rfl
theorem enc_bytes (n : Int) (h0 : 0 ≤ n) : ∀ x ∈ enc n, Byte x := by
  unfold enc
  intro x hx
  rcases class_cases n h0 with ⟨h, hb⟩ | ⟨h, hb⟩ | ⟨h, hb⟩ | ⟨h, hb⟩ | ⟨h, hb⟩ <;> rw [h] at hx <;> simp only [List.mem_cons, List.not_mem_nil, or_false] at hx <;> unfold Byte
  · omega
  · rcases hx with rfl | rfl <;> omega
  · rcases hx with rfl | rfl | rfl | rfl <;> omega
  · rcases hx with rfl | rfl | rfl | rfl | rfl | rfl | rfl | rfl <;> omega
theorem take_enc (n : Int) (h0 : 0 ≤ n) (h1 : n ≤ 4611686018427387903) (rest : List Int) : takeF (enc n ++ rest) = some (n, sizeF n) := by
  unfold enc sizeF
  rcases class_cases n h0 with ⟨h, hb⟩ | ⟨h, hb⟩ | ⟨h, hb⟩ | ⟨h, hb⟩ | ⟨h, hb⟩ <;> rw [h]
  · have e : n / 64 = 0 := by omega
    simp [takeF, e]; omega
  · have e : (64 + n / 256) / 64 = 1 := by omega
    simp [takeF, e]; omega
  · have e : (128 + n / 16777216) / 64 = 2 := by omega
    simp [takeF, e]; omega
  · have e : (192 + n / 72057594037927936) / 64 = 3 := by omega
    simp [takeF, e]; omega
  · omega
theorem cut_enc (n : Int) (h0 : 0 ≤ n) (h1 : n ≤ 4611686018427387903) (rest : List Int) : takeF ((enc n ++ rest).take (sizeF n - 1)) = none := by
  unfold enc sizeF
  rcases class_cases n h0 with ⟨h, hb⟩ | ⟨h, hb⟩ | ⟨h, hb⟩ | ⟨h, hb⟩ | ⟨h, hb⟩ <;> rw [h]
  · simp [takeF]
  · have e : (64 + n / 256) / 64 = 1 := by omega
    simp [takeF, e]
  · have e : (128 + n / 16777216) / 64 = 2 := by omega
    simp [takeF, e]
  · have e : (192 + n / 72057594037927936) / 64 = 3 := by omega
    simp [takeF, e]
  · omega
theorem fold_bd : ∀ (l : List Int) (a : Int), (∀ x ∈ l, Byte x) → 0 ≤ a → a * 256 ^ l.length ≤ l.foldl (fun a c => a * 256 + c) a ∧ l.foldl (fun a c => a * 256 + c) a < (a + 1) * 256 ^ l.length := by
  intro l
  induction l with
  | nil => intro a _ _; simp; omega
  | cons x l ih =>
    intro a h ha
    have hx := h x (by simp)
    unfold Byte at hx
    obtain ⟨i1, i2⟩ := ih (a * 256 + x) (fun y hy => h y (by simp [hy])) (by omega)
    simp only [List.foldl_cons, List.length_cons]
    have e : (256 : Int) ^ (l.length + 1) = 256 * 256 ^ l.length := by rw [Int.pow_succ, Int.mul_comm]
    have hp : (0 : Int) < 256 ^ l.length := Int.pow_pos (by omega)
    generalize (256 : Int) ^ l.length = p at *
    rw [e]
    constructor
    · refine Int.le_trans ?_ i1
      have : 0 ≤ x * p := Int.mul_nonneg hx.1 (by omega)
      rw [Int.add_mul, Int.mul_assoc]; omega
    · refine Int.lt_of_lt_of_le i2 ?_
      have : (x + 1) * p ≤ 256 * p := Int.mul_le_mul_of_nonneg_right (by omega) (by omega)
      have e2 : (a * 256 + x + 1) * p = a * (256 * p) + (x + 1) * p := by rw [Int.add_assoc, Int.add_mul, Int.mul_assoc]
      have e3 : (a + 1) * (256 * p) = a * (256 * p) + 256 * p := by rw [Int.add_mul, Int.one_mul]
      rw [e2, e3]; omega
theorem take_bd (x : Int) (r : List Int) (hx : Byte x) (hr : ∀ y ∈ r, Byte y) (n : Int) (u : Nat) (h : takeF (x :: r) = some (n, u)) :
    u = 2 ^ (x / 64).toNat ∧ u ≤ r.length + 1 ∧ 0 ≤ n ∧ n ≤ 4611686018427387903 ∧ sizeF n ≤ u ∧ 1 ≤ u ∧ u ≤ 8 := by
  simp only [takeF] at h
  split at h
  · cases h
  · rename_i hlen
    simp only [Option.some.injEq, Prod.mk.injEq] at h
    obtain ⟨rfl, rfl⟩ := h
    unfold Byte at hx
    have hb := fold_bd (r.take (2 ^ (x / 64).toNat - 1)) (x % 64) (fun y hy => hr y (List.mem_of_mem_take hy)) (by omega)
    rw [List.length_take_of_le (by omega)] at hb
    have hc : (x / 64).toNat = 0 ∨ (x / 64).toNat = 1 ∨ (x / 64).toNat = 2 ∨ (x / 64).toNat = 3 := by omega
    generalize (r.take (2 ^ (x / 64).toNat - 1)).foldl (fun a c => a * 256 + c) (x % 64) = m at *
    have hs : ∀ k, 0 ≤ m → m ≤ k → sizeF m ≤ (if k ≤ 63 then 1 else if k ≤ 16383 then 2 else if k ≤ 1073741823 then 4 else 8) := by
      intro k h0 hk
      unfold sizeF
      rcases class_cases m h0 with ⟨h, hb⟩ | ⟨h, hb⟩ | ⟨h, hb⟩ | ⟨h, hb⟩ | ⟨h, hb⟩ <;> rw [h] <;> simp <;> (repeat' split) <;> omega
    rcases hc with hc | hc | hc | hc <;> rw [hc] at hb hlen ⊢ <;> (try simp at hb) <;> (try simp at hlen) <;> (try simp)
    · have := hs 63 (by omega) (by omega); simp at this; omega
    · have := hs 16383 (by omega) (by omega); simp at this; omega
    · have := hs 1073741823 (by omega) (by omega); simp at this; omega
    · have := hs 4611686018427387903 (by omega) (by omega); simp at this; omega

/-- The low W bytes of a number, the greatest first. -/
def be (W : Nat) (n : Int) : List Int := (List.range W).map fun q => n / 2 ^ (8 * (W - 1 - q)) % 256
theorem be_length (W : Nat) (n : Int) : (be W n).length = W := by simp [be]
theorem be_get (W : Nat) (n : Int) (q : Nat) (h : q < W) : (be W n).getD q 0 = n / 2 ^ (8 * (W - 1 - q)) % 256 := by
  simp [be, List.getD_eq_getElem?_getD, h]
theorem be_take (W : Nat) (n : Int) (j : Nat) (h : j < W) : (be W n).take j ++ [n / 2 ^ (8 * (W - 1 - j)) % 256] = (be W n).take (j + 1) := by
  rw [List.take_succ_eq_append_getElem (by rw [be_length]; exact h)]
  simp [be]
theorem be_byte (W : Nat) (n : Int) : ∀ x ∈ be W n, Byte x := by
  intro x hx
  obtain ⟨q, _, rfl⟩ := List.mem_map.1 hx
  unfold Byte; omega
/-- The class goes into the first byte. -/
theorem be_enc (n : Int) (h0 : 0 ≤ n) (h1 : n ≤ 4611686018427387903) : enc n = (be (2 ^ classF n) n).set 0 ((be (2 ^ classF n) n).getD 0 0 + 64 * classF n) ∧ (be (2 ^ classF n) n).getD 0 0 < 64 := by
  unfold enc
  rcases class_cases n h0 with ⟨h, hb⟩ | ⟨h, hb⟩ | ⟨h, hb⟩ | ⟨h, hb⟩ | ⟨h, hb⟩ <;> rw [h]
  · simp [be, List.range_succ]; omega
  · simp [be, List.range_succ]; omega
  · simp [be, List.range_succ]; omega
  · simp [be, List.range_succ]; omega
  · omega

end Var
end Go.Proofs.Ytcpjehgoeibbeaa
