/- The document's Line: its condition (written by gen_sce3.py). -/
import Derived.Test.YthangjgdjhhfgaaGreatDoorScE3
import Derived.Deep.DeepCutAuto
namespace Go.Proofs.YthangjgdjhhfgaaGreatDoor
open Go.RowKit
set_option linter.unusedVariables false
theorem has_115 (l : List UInt8) (w : World) (hl : l.length ≤ 1000) : Calls Tryz.prog 19 #[.string (tx l), .int .u8 115] w fun x w' => x = .returned (.bool (decide ((115 : UInt8) ∈ l))) ∧ w = w' := has_any l 115 w hl
theorem has_110 (l : List UInt8) (w : World) (hl : l.length ≤ 1000) : Calls Tryz.prog 19 #[.string (tx l), .int .u8 110] w fun x w' => x = .returned (.bool (decide ((110 : UInt8) ∈ l))) ∧ w = w' := has_any l 110 w hl
theorem has_105 (l : List UInt8) (w : World) (hl : l.length ≤ 1000) : Calls Tryz.prog 19 #[.string (tx l), .int .u8 105] w fun x w' => x = .returned (.bool (decide ((105 : UInt8) ∈ l))) ∧ w = w' := has_any l 105 w hl
theorem has_99 (l : List UInt8) (w : World) (hl : l.length ≤ 1000) : Calls Tryz.prog 19 #[.string (tx l), .int .u8 99] w fun x w' => x = .returned (.bool (decide ((99 : UInt8) ∈ l))) ∧ w = w' := has_any l 99 w hl
theorem has_98 (l : List UInt8) (w : World) (hl : l.length ≤ 1000) : Calls Tryz.prog 19 #[.string (tx l), .int .u8 98] w fun x w' => x = .returned (.bool (decide ((98 : UInt8) ∈ l))) ∧ w = w' := has_any l 98 w hl
theorem has_100 (l : List UInt8) (w : World) (hl : l.length ≤ 1000) : Calls Tryz.prog 19 #[.string (tx l), .int .u8 100] w fun x w' => x = .returned (.bool (decide ((100 : UInt8) ∈ l))) ∧ w = w' := has_any l 100 w hl
theorem tailR_cons (c : UInt8) (l : List UInt8) (m : Mv) : tailR (c :: l) m = 32 :: (fieldR c m ++ tailR l m) := by simp [tailR]

/-- What a round of Line keeps. -/
structure RlI (w0 : World) (m : Mv) (vB vD : Value) (wd lt acc : List UInt8) (j : Nat) (w : World) : Prop where
  below : Below w0.heap.size w0 w
  blk : Blk w w0.heap.size (mvCs m vB vD) 35
  eq : acc ++ tailR (lt.drop j) m = wd ++ tailR lt m
  len : acc.length ≤ 10 + j * 9000001
theorem tailR_drop {lt : List UInt8} {j : Nat} (h : j < lt.length) (m : Mv) : tailR (lt.drop j) m = 32 :: (fieldR (lt.getD j 0) m ++ tailR (lt.drop (j + 1)) m) := by
  rw [List.drop_eq_getElem_cons h, tailR_cons]
  simp [List.getD, h]
theorem letsR_ok : ∀ k, k < 27 → ∀ c ∈ lettersE k, c = 115 ∨ c = 110 ∨ c = 105 ∨ c = 99 ∨ c = 98 ∨ c = 102 ∨ c = 116 ∨ c = 100 := by decide
theorem letsR_len : ∀ k, k < 27 → (lettersE k).length ≤ 3 := by decide
end Go.Proofs.YthangjgdjhhfgaaGreatDoor
