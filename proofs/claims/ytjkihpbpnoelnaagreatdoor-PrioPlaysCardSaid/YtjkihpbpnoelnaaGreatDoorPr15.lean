/- Parse at the document's texts; works. -/
import Derived.Test.YtjkihpbpnoelnaaGreatDoorPr14
import Derived.Test.YtjkihpbpnoelnaaGreatDoorPr10
namespace Go.Proofs.YtjkihpbpnoelnaaGreatDoor
open Go.RowKit
set_option linter.unusedVariables false
def zeroPost (u : Int) (b : Bool) (r : Int) (w : World) (e : Ending) (w' : World) : Prop := Below w.heap.size w w' ∧ e = .returned (.tuple #[.agg #[.int .u8 u, .bool b], .int .i64 r])
theorem ix_two (p q : List UInt8) (h1 : ∀ W, Calls Tryz.prog 62 #[.string (tx (p ++ 44 :: q)), .string (tx [44])] W fun e W' => e = .returned (.int .i64 (p.length : Nat)) ∧ Below W.heap.size W W') (h2 : ∀ W, Calls Tryz.prog 62 #[.string (tx q), .string (tx [44])] W fun e W' => e = .returned (.int .i64 (-1)) ∧ Below W.heap.size W W') : ∀ k, k < [p, q].length → IxOk ([p, q].drop k) := by
  intro k hk
  rcases k with _ | _ | k
  · exact h1
  · exact h2
  · simp at hk; omega
theorem two_split {p q x : List UInt8} {pre r : List (List UInt8)} (h : [p, q] = pre ++ x :: r) : (pre = [] ∧ x = p) ∨ (pre = [p] ∧ x = q) := by
  rcases pre with _ | ⟨y, _ | ⟨z, pre⟩⟩
  · simp at h; exact .inl ⟨rfl, h.1.symm⟩
  · simp at h; exact .inr ⟨by rw [h.1], h.2.1.symm⟩
  · simp at h
theorem parse_1 (w : World) : Calls Tryz.prog 9 #[.string (tx [105, 61, 63, 48, 44, 117, 61, 49])] w fun e w' => zeroPost 1 false 0 w e w' := by
  refine (parse_any [105, 61, 63, 48, 44, 117, 61, 49] [105, 61, 63, 48, 44, 117, 61, 49] (by simp) [[105, 61, 63, 48], [117, 61, 49]] (fun l => if l.length = 2 then (1, false) else (3, false)) (fun _ => true) rfl (by decide) (by decide) rfl
    m_trim_t0 (ix_two _ _ m_index_t0 m_index_t5) (fun pre x r h b W hb => ?_) w).mono ?_
  · rcases two_split h with ⟨rfl, rfl⟩ | ⟨rfl, rfl⟩
    · exact part_t4 b 3 false W hb
    · exact part_t5 b 3 false W hb
  · rintro e w' ⟨hb, h1, _⟩
    exact ⟨hb, h1 rfl⟩
theorem parse_2 (w : World) : Calls Tryz.prog 9 #[.string (tx [117, 61, 57, 44, 32, 105])] w fun e w' => zeroPost 3 true 0 w e w' := by
  refine (parse_any [117, 61, 57, 44, 32, 105] [117, 61, 57, 44, 32, 105] (by simp) [[117, 61, 57], [32, 105]] (fun l => if l.length = 2 then (3, true) else (3, false)) (fun _ => true) rfl (by decide) (by decide) rfl
    m_trim_t1 (ix_two _ _ m_index_t1 m_index_t7) (fun pre x r h b W hb => ?_) w).mono ?_
  · rcases two_split h with ⟨rfl, rfl⟩ | ⟨rfl, rfl⟩
    · exact part_t6 b 3 false W hb
    · exact part_t7 b 3 false W hb
  · rintro e w' ⟨hb, h1, _⟩
    exact ⟨hb, h1 rfl⟩
theorem parse_3 (w : World) : Calls Tryz.prog 9 #[.string (tx [117, 61, 49, 44, 117, 61, 120])] w fun e w' => zeroPost 0 false 2 w e w' := by
  refine (parse_any [117, 61, 49, 44, 117, 61, 120] [117, 61, 49, 44, 117, 61, 120] (by simp) [[117, 61, 49], [117, 61, 120]] (fun l => if l.length = 0 then (3, false) else (1, false)) (fun x => x != [117, 61, 120]) rfl (by decide) (by decide) rfl
    m_trim_t2 (ix_two _ _ m_index_t2 m_index_t8) (fun pre x r h b W hb => ?_) w).mono ?_
  · rcases two_split h with ⟨rfl, rfl⟩ | ⟨rfl, rfl⟩
    · exact part_t5 b 3 false W hb
    · exact part_t8 b 1 false W hb
  · rintro e w' ⟨hb, _, h1⟩
    exact ⟨hb, h1 rfl⟩
theorem parse_4 (w : World) : Calls Tryz.prog 9 #[.string (tx [44, 105])] w fun e w' => zeroPost 0 false 2 w e w' := by
  refine (parse_any [44, 105] [44, 105] (by simp) [[], [105]] (fun l => if l.length = 2 then (3, true) else (3, false)) (fun x => x != []) rfl (by decide) (by decide) rfl
    m_trim_t3 (ix_two _ _ m_index_t3 m_index_t10) (fun pre x r h b W hb => ?_) w).mono ?_
  · rcases two_split h with ⟨rfl, rfl⟩ | ⟨rfl, rfl⟩
    · exact part_t9 b 3 false W hb
    · exact part_t10 b 3 false W hb
  · rintro e w' ⟨hb, _, h1⟩
    exact ⟨hb, h1 rfl⟩
end Go.Proofs.YtjkihpbpnoelnaaGreatDoor
