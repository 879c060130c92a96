/- Layer 1: the chapter's rows; VarintTakes. -/
import Derived.Test.YtjeolfnmheofeaaVar4
namespace Go.Proofs.Ytjeolfnmheofeaa
open Go.RowKit
set_option linter.unusedVariables false
namespace Var

section
variable {P : Program} {ops : Array Oper} {rest : List Oper} {a : Act} {w : World} {Q : Exit → Act → World → Prop}
theorem stop_bstr {d : Option Tmp} {x : Operand} {ty : TypeId} {pos : String} {aft : Array Edge}
    (h : Stop (wpList P ops Q (⟨d, .convert 22 9 x, ty, pos, aft, none⟩ :: rest) a w)) : wpList P ops Q (⟨d, .convert 22 9 x, ty, pos, aft, none⟩ :: rest) a w := h
theorem stop_eql {d : Option Tmp} {x y : Operand} {t2 ty : TypeId} {pos : String} {aft : Array Edge} {g : Option (Nat × Bool)}
    (h : Stop (wpList P ops Q (⟨d, .binOp .eql 9 x y t2, ty, pos, aft, g⟩ :: rest) a w)) : wpList P ops Q (⟨d, .binOp .eql 9 x y t2, ty, pos, aft, g⟩ :: rest) a w := h
theorem stop_neq {d : Option Tmp} {x y : Operand} {t2 ty : TypeId} {pos : String} {aft : Array Edge} {g : Option (Nat × Bool)}
    (h : Stop (wpList P ops Q (⟨d, .binOp .neq 9 x y t2, ty, pos, aft, g⟩ :: rest) a w)) : wpList P ops Q (⟨d, .binOp .neq 9 x y t2, ty, pos, aft, g⟩ :: rest) a w := h
theorem stop_bstr_g {d : Option Tmp} {x : Operand} {ty : TypeId} {pos : String} {aft : Array Edge} {g : Nat × Bool}
    (h : Stop (wpList P ops Q (⟨d, .convert 22 9 x, ty, pos, aft, some g⟩ :: rest) a w)) : wpList P ops Q (⟨d, .convert 22 9 x, ty, pos, aft, some g⟩ :: rest) a w := h
end

/-- A block that has just been made, of these numbers. -/
theorem sl_new (kd : IntKind) (w : World) (T : TypeId) (L : List Int) (cs : Array Value) (h : cs = (L.map (Value.int kd)).toArray) (hw : ∀ n ∈ L, (Lit.int kd n).wf = true) (hl : L.length ≤ maxLen) :
    Sl kd (w.alloc (.cells cs T)) (some ⟨w.heap.size, 0, none⟩) L.length L := by
  subst h
  exact ⟨IntsAt.of_map (Blk.new w _ T) hw, by simp, Nat.le_refl _, hl⟩

theorem enc_rows : [] ++ encs [37, 15293, 494878333, 151288809941952652] = [37, 123, 189, 157, 127, 62, 125, 194, 25, 124, 94, 255, 20, 232, 140] := by decide
theorem str_rows : strOfNums [37, 123, 189, 157, 127, 62, 125, 194, 25, 124, 94, 255, 20, 232, 140] = ⟨#[37, 123, 189, 157, 127, 62, 125, 194, 25, 124, 94, 255, 20, 232, 140]⟩ := by rfl
theorem str_56 : strOfNums [5, 6] = ⟨#[5, 6]⟩ := by rfl

set_option maxHeartbeats 2000000 in
theorem known_any (w : World) : Calls Try.prog 12 #[] w fun e w' => e = .returned (.bool true) ∧ Below w.heap.size w w' := by
  have wf : ∀ n : Int, 0 ≤ n → n ≤ 255 → (Lit.int .u8 n).wf = true := fun n h h' => wf_byte ⟨h, h'⟩
  have WF := Lib.hid wf
  clear wf
  go_enter Try.func12, Try.ntmps12
  go_wp2_with (fail)
  refine (append_any none 0 0 [] (some ⟨w.heap.size, 0, none⟩) 4 4 [37, 15293, 494878333, 151288809941952652] _ rfl rfl (by decide) (Sl.nil _ _) (sl_new .u64 w _ [37, 15293, 494878333, 151288809941952652] _ rfl (by simp; decide) (by decide))).mono ?_
  rintro e w1 ⟨hb1, hyes, _⟩
  obtain ⟨a1, c1, rfl, ho1⟩ := hyes (by simp [Fits])
  rw [enc_rows] at ho1 ⊢
  have hb1 : Below w.heap.size w w1 := below_on ((Below.refl _ _).alloc (Nat.le_refl _) _) hb1 (by simp)
  have hs1 := (ho1.sl (L := [37, 123, 189, 157, 127, 62, 125, 194, 25, 124, 94, 255, 20, 232, 140]) (by simp; decide)).2
  clear hyes ho1
  have H1 := Lib.hid hs1
  clear hs1
  go_wp2_with (with_reducible refine stop_bstr ?_)
  refine Stop.out ?_
  refine wpList_str Try.underlying22 Try.underlying5 Try.underlying9 rfl rfl rfl rfl H1.out.ints ?_
  rw [str_rows]
  go_wp2_with (fail)
  have wf2 : ∀ n ∈ ([64, 37] : List Int), (Lit.int .u8 n).wf = true := by simp; exact ⟨WF.out _ (by omega) (by omega), WF.out _ (by omega) (by omega)⟩
  refine (take_any _ 2 2 [64, 37] _ rfl (sl_new .u8 w1 _ [64, 37] _ rfl wf2 (by decide))).mono ?_
  have t1 : takeN [64, 37] = 37 ∧ takeU [64, 37] = 2 ∧ (takeF [64, 37]).isSome = true := by decide
  rw [t1.1, t1.2.1, t1.2.2]
  rintro e w2 ⟨rfl, hw2⟩
  have hb2 : Below w.heap.size w w2 := by rw [← hw2]; exact hb1.alloc hb1.size _
  clear t1 wf2 hw2
  go_wp2_with (fail)
  have wf3 : ∀ n ∈ ([123] : List Int), (Lit.int .u8 n).wf = true := by simp; exact WF.out _ (by omega) (by omega)
  refine (take_any _ 1 1 [123] _ rfl (sl_new .u8 w2 _ [123] _ rfl wf3 (by decide))).mono ?_
  have t1 : takeN [123] = 0 ∧ takeU [123] = 0 ∧ (takeF [123]).isSome = false := by decide
  rw [t1.1, t1.2.1, t1.2.2]
  rintro e w3 ⟨rfl, hw3⟩
  have hb3 : Below w.heap.size w w3 := by rw [← hw3]; exact hb2.alloc hb2.size _
  clear t1 wf3 hw3
  go_wp2_with (fail)
  refine (take_any none 0 0 [] _ rfl (Sl.nil _ _)).mono ?_
  have t1 : takeN [] = 0 ∧ takeU [] = 0 ∧ (takeF []).isSome = false := by decide
  rw [t1.1, t1.2.1, t1.2.2]
  rintro e w4 ⟨rfl, rfl⟩
  clear t1
  go_wp2_with (fail)
  have wf3 : ∀ n ∈ ([2, 5, 6, 7] : List Int), (Lit.int .u8 n).wf = true := by simp; refine ⟨?_, ?_, ?_, ?_⟩ <;> exact WF.out _ (by omega) (by omega)
  refine (bytes_any _ 4 4 [2, 5, 6, 7] _ rfl (by decide) (sl_new .u8 w3 _ [2, 5, 6, 7] _ rfl wf3 (by decide))).mono ?_
  have t1 : bytesL [2, 5, 6, 7] = [5, 6] ∧ bytesU [2, 5, 6, 7] = 3 ∧ (bytesF [2, 5, 6, 7]).isSome = true := by decide
  rw [t1.1, t1.2.1, t1.2.2]
  rintro e w5 ⟨a5, c5, rfl, ho5, hb5⟩
  have hs5 := (ho5.sl (L := [5, 6]) (by simp; exact ⟨WF.out _ (by omega) (by omega), WF.out _ (by omega) (by omega)⟩)).2
  have hb5 := below_on (hb3.alloc hb3.size _) hb5 (by have := hb3.size; simp; omega)
  clear t1 wf3 ho5 hb1 hb2 hb3
  go_wp2_with (fail)
  have wf3 : ∀ n ∈ ([3, 5, 6] : List Int), (Lit.int .u8 n).wf = true := by simp; refine ⟨?_, ?_, ?_⟩ <;> exact WF.out _ (by omega) (by omega)
  refine (bytes_any _ 3 3 [3, 5, 6] _ rfl (by decide) (sl_new .u8 w5 _ [3, 5, 6] _ rfl wf3 (by decide))).mono ?_
  have t1 : bytesL [3, 5, 6] = [] ∧ bytesU [3, 5, 6] = 0 ∧ (bytesF [3, 5, 6]).isSome = false := by decide
  rw [t1.1, t1.2.1, t1.2.2]
  rintro e w6 ⟨a6, c6, rfl, ho6, hb6⟩
  have H6 := Lib.hid ((hs5.below ((Below.refl _ _).alloc (Nat.le_refl _) _)).below hb6)
  have hb6 := below_on (hb5.alloc hb5.size _) hb6 (by have := hb5.size; simp; omega)
  clear t1 wf3 ho6 hs5 hb5
  go_wp2_with (fail)
  refine (size_any 63 _ (by omega) (by omega)).mono ?_
  rw [show sizeF 63 = 1 by decide]
  rintro e w7 ⟨rfl, rfl⟩
  go_wp2_with (fail)
  refine (size_any 64 _ (by omega) (by omega)).mono ?_
  rw [show sizeF 64 = 2 by decide]
  rintro e w7 ⟨rfl, rfl⟩
  go_wp2_with (fail)
  refine (size_any 4611686018427387904 _ (by omega) (by omega)).mono ?_
  rw [show sizeF 4611686018427387904 = 0 by decide]
  rintro e w7 ⟨rfl, rfl⟩
  go_wp2_with (with_reducible refine stop_bstr_g ?_)
  refine Stop.out ?_
  refine wpList_str Try.underlying22 Try.underlying5 Try.underlying9 rfl rfl rfl rfl H6.out.ints ?_
  rw [str_56]
  go_wp2_with (fail)
  go_returns
  exact ⟨rfl, hb6⟩

end Var
end Go.Proofs.Ytjeolfnmheofeaa
