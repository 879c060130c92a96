/- A part of a priority's text, at the document's examples. -/
import Derived.Test.YtjkihpbpnoelnaaGreatDoorPr11
namespace Go.Proofs.YtjkihpbpnoelnaaGreatDoor
open Go.RowKit
set_option linter.unusedVariables false
/-- Behind part: whether it is one; what the priority is then. -/
def PartPost (b : Nat) (u : Int) (i ok : Bool) (W : World) (e : Ending) (W' : World) : Prop := Only (· = b) W W' ∧ e = .returned (.bool ok) ∧ Blk W' b #[.int .u8 u, .bool i] 26
set_option maxRecDepth 100000 in
set_option maxHeartbeats 2000000 in
theorem part_t4 (b : Nat) (u : Int) (i : Bool) (w : World) (h : Blk w b #[.int .u8 u, .bool i] 26) : Calls Tryz.prog 25 #[.pointer (some ⟨b, 0, none⟩), .string (tx [105, 61, 63, 48])] w fun e w' => PartPost b u false true w e w' := by
  have H := Lib.hid h
  clear h
  go_enter Tryz.func25, Tryz.ntmps25
  go_wp2_with (fail)
  refine (m_trim_t4 _).mono ?_
  rintro e w1 ⟨rfl, hb1⟩
  go_wp2_with (fail)
  refine (m_cut_t4 _).mono ?_
  rintro e w2 ⟨rfl, hb2⟩
  have b2 := below_on hb1 hb2 hb1.size
  go_wp2_with (fail)
  refine (m_value_t11 _).mono ?_
  rintro e w3 ⟨rfl, hb3⟩
  have b3 := below_on b2 hb3 b2.size
  have B3 := Lib.hid b3
  clear hb1 hb2 hb3 b2 b3
  go_wp2_with (fail)
  refine (m_key_t10 _).mono ?_
  rintro e w4 ⟨rfl, hb4⟩
  have b4 := below_on B3.out hb4 B3.out.size
  have H4 := Lib.hid (H.out.below b4)
  have f0 := H4.out.free 0
  have f1 := H4.out.free 1
  have d0 := H4.out.cell 0 _ rfl
  have d1 := H4.out.cell 1 _ rfl
  have B4 := Lib.hid b4
  clear hb4 b4
  go_wp2_with (fail)
  go_returns
  exact ⟨(only_of_below B4.out _).set 1 _, rfl, (H4.out.set 1 _).congr rfl⟩
set_option maxRecDepth 100000 in
set_option maxHeartbeats 2000000 in
theorem part_t5 (b : Nat) (u : Int) (i : Bool) (w : World) (h : Blk w b #[.int .u8 u, .bool i] 26) : Calls Tryz.prog 25 #[.pointer (some ⟨b, 0, none⟩), .string (tx [117, 61, 49])] w fun e w' => PartPost b 1 i true w e w' := by
  have H := Lib.hid h
  clear h
  go_enter Tryz.func25, Tryz.ntmps25
  go_wp2_with (fail)
  refine (m_trim_t5 _).mono ?_
  rintro e w1 ⟨rfl, hb1⟩
  go_wp2_with (fail)
  refine (m_cut_t5 _).mono ?_
  rintro e w2 ⟨rfl, hb2⟩
  have b2 := below_on hb1 hb2 hb1.size
  go_wp2_with (fail)
  refine (m_value_t12 _).mono ?_
  rintro e w3 ⟨rfl, hb3⟩
  have b3 := below_on b2 hb3 b2.size
  have B3 := Lib.hid b3
  clear hb1 hb2 hb3 b2 b3
  go_wp2_with (fail)
  refine (m_key_t13 _).mono ?_
  rintro e w4 ⟨rfl, hb4⟩
  have b4 := below_on B3.out hb4 B3.out.size
  have H4 := Lib.hid (H.out.below b4)
  have f0 := H4.out.free 0
  have f1 := H4.out.free 1
  have d0 := H4.out.cell 0 _ rfl
  have d1 := H4.out.cell 1 _ rfl
  have B4 := Lib.hid b4
  clear hb4 b4
  go_wp2_with (fail)
  go_returns
  exact ⟨((only_of_below B4.out _).set 0 _).set 0 _, rfl, ((H4.out.set 0 _).set 0 _).congr rfl⟩
set_option maxRecDepth 100000 in
set_option maxHeartbeats 2000000 in
theorem part_t6 (b : Nat) (u : Int) (i : Bool) (w : World) (h : Blk w b #[.int .u8 u, .bool i] 26) : Calls Tryz.prog 25 #[.pointer (some ⟨b, 0, none⟩), .string (tx [117, 61, 57])] w fun e w' => PartPost b 3 i true w e w' := by
  have H := Lib.hid h
  clear h
  go_enter Tryz.func25, Tryz.ntmps25
  go_wp2_with (fail)
  refine (m_trim_t6 _).mono ?_
  rintro e w1 ⟨rfl, hb1⟩
  go_wp2_with (fail)
  refine (m_cut_t6 _).mono ?_
  rintro e w2 ⟨rfl, hb2⟩
  have b2 := below_on hb1 hb2 hb1.size
  go_wp2_with (fail)
  refine (m_value_t14 _).mono ?_
  rintro e w3 ⟨rfl, hb3⟩
  have b3 := below_on b2 hb3 b2.size
  have B3 := Lib.hid b3
  clear hb1 hb2 hb3 b2 b3
  go_wp2_with (fail)
  refine (m_key_t13 _).mono ?_
  rintro e w4 ⟨rfl, hb4⟩
  have b4 := below_on B3.out hb4 B3.out.size
  have H4 := Lib.hid (H.out.below b4)
  have f0 := H4.out.free 0
  have f1 := H4.out.free 1
  have d0 := H4.out.cell 0 _ rfl
  have d1 := H4.out.cell 1 _ rfl
  have B4 := Lib.hid b4
  clear hb4 b4
  go_wp2_with (fail)
  go_returns
  exact ⟨(only_of_below B4.out _).set 0 _, rfl, (H4.out.set 0 _).congr rfl⟩
set_option maxRecDepth 100000 in
set_option maxHeartbeats 2000000 in
theorem part_t7 (b : Nat) (u : Int) (i : Bool) (w : World) (h : Blk w b #[.int .u8 u, .bool i] 26) : Calls Tryz.prog 25 #[.pointer (some ⟨b, 0, none⟩), .string (tx [32, 105])] w fun e w' => PartPost b u true true w e w' := by
  have H := Lib.hid h
  clear h
  go_enter Tryz.func25, Tryz.ntmps25
  go_wp2_with (fail)
  refine (m_trim_t7 _).mono ?_
  rintro e w1 ⟨rfl, hb1⟩
  go_wp2_with (fail)
  refine (m_cut_t10 _).mono ?_
  rintro e w2 ⟨rfl, hb2⟩
  have b2 := below_on hb1 hb2 hb1.size
  go_wp2_with (fail)
  refine (m_value_t15 _).mono ?_
  rintro e w3 ⟨rfl, hb3⟩
  have b3 := below_on b2 hb3 b2.size
  have B3 := Lib.hid b3
  clear hb1 hb2 hb3 b2 b3
  go_wp2_with (fail)
  refine (m_key_t10 _).mono ?_
  rintro e w4 ⟨rfl, hb4⟩
  have b4 := below_on B3.out hb4 B3.out.size
  have H4 := Lib.hid (H.out.below b4)
  have f0 := H4.out.free 0
  have f1 := H4.out.free 1
  have d0 := H4.out.cell 0 _ rfl
  have d1 := H4.out.cell 1 _ rfl
  have B4 := Lib.hid b4
  clear hb4 b4
  go_wp2_with (fail)
  go_returns
  exact ⟨(only_of_below B4.out _).set 1 _, rfl, (H4.out.set 1 _).congr rfl⟩
set_option maxRecDepth 100000 in
set_option maxHeartbeats 2000000 in
theorem part_t8 (b : Nat) (u : Int) (i : Bool) (w : World) (h : Blk w b #[.int .u8 u, .bool i] 26) : Calls Tryz.prog 25 #[.pointer (some ⟨b, 0, none⟩), .string (tx [117, 61, 120])] w fun e w' => PartPost b u i false w e w' := by
  have H := Lib.hid h
  clear h
  go_enter Tryz.func25, Tryz.ntmps25
  go_wp2_with (fail)
  refine (m_trim_t8 _).mono ?_
  rintro e w1 ⟨rfl, hb1⟩
  go_wp2_with (fail)
  refine (m_cut_t8 _).mono ?_
  rintro e w2 ⟨rfl, hb2⟩
  have b2 := below_on hb1 hb2 hb1.size
  go_wp2_with (fail)
  refine (m_value_t16 _).mono ?_
  rintro e w3 ⟨rfl, hb3⟩
  have b3 := below_on b2 hb3 b2.size
  have B3 := Lib.hid b3
  clear hb1 hb2 hb3 b2 b3
  go_wp2_with (fail)
  go_returns
  exact ⟨only_of_below B3.out _, rfl, H.out.below B3.out⟩
set_option maxRecDepth 100000 in
set_option maxHeartbeats 2000000 in
theorem part_t9 (b : Nat) (u : Int) (i : Bool) (w : World) (h : Blk w b #[.int .u8 u, .bool i] 26) : Calls Tryz.prog 25 #[.pointer (some ⟨b, 0, none⟩), .string (tx [])] w fun e w' => PartPost b u i false w e w' := by
  have H := Lib.hid h
  clear h
  go_enter Tryz.func25, Tryz.ntmps25
  go_wp2_with (fail)
  refine (m_trim_t9 _).mono ?_
  rintro e w1 ⟨rfl, hb1⟩
  go_wp2_with (fail)
  refine (m_cut_t9 _).mono ?_
  rintro e w2 ⟨rfl, hb2⟩
  have b2 := below_on hb1 hb2 hb1.size
  go_wp2_with (fail)
  refine (m_value_t15 _).mono ?_
  rintro e w3 ⟨rfl, hb3⟩
  have b3 := below_on b2 hb3 b2.size
  have B3 := Lib.hid b3
  clear hb1 hb2 hb3 b2 b3
  go_wp2_with (fail)
  refine (m_key_t9 _).mono ?_
  rintro e w4 ⟨rfl, hb4⟩
  have b4 := below_on B3.out hb4 B3.out.size
  have H4 := Lib.hid (H.out.below b4)
  have f0 := H4.out.free 0
  have f1 := H4.out.free 1
  have d0 := H4.out.cell 0 _ rfl
  have d1 := H4.out.cell 1 _ rfl
  have B4 := Lib.hid b4
  clear hb4 b4
  go_wp2_with (fail)
  go_returns
  exact ⟨only_of_below B4.out _, rfl, H4.out⟩
set_option maxRecDepth 100000 in
set_option maxHeartbeats 2000000 in
theorem part_t10 (b : Nat) (u : Int) (i : Bool) (w : World) (h : Blk w b #[.int .u8 u, .bool i] 26) : Calls Tryz.prog 25 #[.pointer (some ⟨b, 0, none⟩), .string (tx [105])] w fun e w' => PartPost b u true true w e w' := by
  have H := Lib.hid h
  clear h
  go_enter Tryz.func25, Tryz.ntmps25
  go_wp2_with (fail)
  refine (m_trim_t10 _).mono ?_
  rintro e w1 ⟨rfl, hb1⟩
  go_wp2_with (fail)
  refine (m_cut_t10 _).mono ?_
  rintro e w2 ⟨rfl, hb2⟩
  have b2 := below_on hb1 hb2 hb1.size
  go_wp2_with (fail)
  refine (m_value_t15 _).mono ?_
  rintro e w3 ⟨rfl, hb3⟩
  have b3 := below_on b2 hb3 b2.size
  have B3 := Lib.hid b3
  clear hb1 hb2 hb3 b2 b3
  go_wp2_with (fail)
  refine (m_key_t10 _).mono ?_
  rintro e w4 ⟨rfl, hb4⟩
  have b4 := below_on B3.out hb4 B3.out.size
  have H4 := Lib.hid (H.out.below b4)
  have f0 := H4.out.free 0
  have f1 := H4.out.free 1
  have d0 := H4.out.cell 0 _ rfl
  have d1 := H4.out.cell 1 _ rfl
  have B4 := Lib.hid b4
  clear hb4 b4
  go_wp2_with (fail)
  go_returns
  exact ⟨(only_of_below B4.out _).set 1 _, rfl, (H4.out.set 1 _).congr rfl⟩
end Go.Proofs.YtjkihpbpnoelnaaGreatDoor
