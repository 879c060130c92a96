/- PrioKnown: the document's examples, and no plan. -/
import Derived.Test.YtjkihpbpnoelnaaGreatDoorPr17
namespace Go.Proofs.YtjkihpbpnoelnaaGreatDoor
open Go.RowKit
set_option linter.unusedVariables false
set_option maxRecDepth 100000 in
set_option maxHeartbeats 4000000 in
theorem known_any (w : World) : Calls Tryz.prog 3 #[] w fun e w' => e = .returned (.bool true) ∧ Below w.heap.size w w' := by
  go_enter Tryz.func3, Tryz.ntmps3
  go_wp2_with (fail)
  refine (default_any w).mono ?_
  rintro e w1 ⟨hb1, rfl⟩
  have b1 := Lib.hid hb1
  clear hb1
  go_wp2_with (fail)
  refine (m_print2 w1).mono ?_
  rintro e w2 ⟨rfl, hb2⟩
  have b2 := Lib.hid (below_on b1.out hb2 b1.out.size)
  clear hb2
  go_wp2_with (fail)
  refine (parse_2 w2).mono ?_
  rintro e w3 ⟨hb3, rfl⟩
  have b3 := Lib.hid (below_on b2.out hb3 b2.out.size)
  clear hb3
  go_wp2_with (fail)
  have hp3 := Lib.hid (Blk.new w3 #[.int .u8 3, .bool true] 26)
  have hb3a := Lib.hid (b3.out.alloc b3.out.size (.cells #[.int .u8 3, .bool true] 26))
  refine (parse_3 _).mono ?_
  rintro e w4 ⟨hb4, rfl⟩
  have b4 := Lib.hid (below_on hb3a.out hb4 hb3a.out.size)
  have hp4 := Lib.hid (hp3.out.below hb4)
  clear hb4
  go_wp2_with (fail)
  have hb4a := Lib.hid (b4.out.alloc b4.out.size (.cells #[.int .u8 0, .bool false] 26))
  have hp4a := Lib.hid (hp4.out.alloc (.cells #[.int .u8 0, .bool false] 26))
  refine (parse_4 _).mono ?_
  rintro e w5 ⟨hb5, rfl⟩
  have b5 := Lib.hid (below_on hb4a.out hb5 hb4a.out.size)
  have hp5 := Lib.hid (hp4a.out.below hb5)
  clear hb5
  go_wp2_with (fail)
  have b5a := Lib.hid (b5.out.alloc b5.out.size (.cells #[.int .u8 0, .bool false] 26))
  have hp5a := Lib.hid (hp5.out.alloc (.cells #[.int .u8 0, .bool false] 26))
  refine (m_print3 _).mono ?_
  rintro e w6 ⟨rfl, hb6⟩
  have b6 := Lib.hid (below_on b5a.out hb6 b5a.out.size)
  have hp6 := Lib.hid (hp5a.out.below hb6)
  clear hb6
  go_wp2_with (fail)
  refine (none_next w6).mono ?_
  rintro e w7 ⟨rfl, rfl⟩
  go_wp2_with (fail)
  refine (none_serve w7).mono ?_
  rintro e w8 ⟨rfl, rfl⟩
  go_wp2_with (fail)
  refine (works_any w8).mono ?_
  rintro e w9 ⟨rfl, hb9⟩
  have b9 := Lib.hid (below_on b6.out hb9 b6.out.size)
  have hp9 := hp6.out.below hb9
  have c0 := hp9.cell 0 _ rfl
  have c1 := hp9.cell 1 _ rfl
  clear hb9 hp9
  go_wp2_with (fail)
  refine (default_any w9).mono ?_
  rintro e w10 ⟨hb10, rfl⟩
  have b10 := Lib.hid (below_on b9.out hb10 b9.out.size)
  clear hb10 c0 c1
  go_wp2_with (fail)
  refine (none_set 1 3 false w10).mono ?_
  rintro e w11 ⟨hb11, rfl⟩
  have b11 := Lib.hid (below_on b10.out hb11 b10.out.size)
  clear hb11
  go_wp2_with (fail)
  refine (none_ready 1 true w11).mono ?_
  rintro e w12 ⟨rfl, rfl⟩
  go_wp2_with (fail)
  have b12 := Lib.hid (b11.out.alloc b11.out.size (.cells #[.int .u64 1] 31))
  refine (none_drop _ _ ⟨_, _, _, rfl⟩).mono ?_
  rintro e w13 ⟨hb13, rfl⟩
  have b13 := Lib.hid (below_on b12.out hb13 b12.out.size)
  clear hb13
  go_wp2_with (fail)
  refine (none_len w13).mono ?_
  rintro e w14 ⟨rfl, rfl⟩
  go_wp2_with (fail)
  refine (new_st w w14 b13.out).mono ?_
  rintro e w15 ⟨q, rfl, hS, hq, _⟩
  have HS := Lib.hid hS
  clear hS
  go_wp2_with (fail)
  refine (ready_st HS.out 1 true).mono ?_
  rintro e w16 ⟨rfl, hS16, _⟩
  have hv : (if hasL 1 [] then (0 : Int) else 4) = 4 := rfl
  rw [hv]
  have b16 := Lib.hid hS16.below
  clear hS16 hv
  go_wp2_with (fail)
  go_returns
  exact ⟨rfl, b16.out⟩
theorem walk_PrioKnown (H : Type) (enc : TypeId × Value → H) (w : World) (base : Nat) (hL : laidMet Tryz.prog Rows.prioKnownRow.laid w) : Calls Tryz.prog 3 #[] w fun e w' => e = .returned (.bool true) ∧ Below w.heap.size w w' := known_any w
end Go.Proofs.YtjkihpbpnoelnaaGreatDoor
