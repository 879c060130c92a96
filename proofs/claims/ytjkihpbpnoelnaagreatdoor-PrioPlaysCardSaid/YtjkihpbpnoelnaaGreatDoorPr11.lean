/- Closed calls of the texts of priorities, run by the machine. -/
import Derived.Test.YtjkihpbpnoelnaaGreatDoorRfV
import Derived.Test.YtjkihpbpnoelnaaGreatDoorBase
namespace Go.Proofs.YtjkihpbpnoelnaaGreatDoor
open Go.RowKit
set_option linter.unusedVariables false
abbrev tx (l : List UInt8) : ByteArray := ⟨l.toArray⟩
theorem mixedP : Tryz.prog.follows .mixedOrders = true := by kernel_rfl
set_option maxRecDepth 100000 in
theorem m_print1 (W : World) : Calls Tryz.prog 7 #[(.agg #[.int .u8 5, .bool true])] W fun e W' => e = .returned (.tuple #[.string (tx [117, 61, 53, 44, 32, 105]), .int .i64 0]) ∧ Below W.heap.size W W' :=
  Rf.runs_val (args := [(.agg #[.int .u8 5, .bool true])]) (k := 60) mixedP (by kernel_rfl) W
set_option maxRecDepth 100000 in
theorem m_print2 (W : World) : Calls Tryz.prog 7 #[(.agg #[.int .u8 3, .bool false])] W fun e W' => e = .returned (.tuple #[.string (tx []), .int .i64 0]) ∧ Below W.heap.size W W' :=
  Rf.runs_val (args := [(.agg #[.int .u8 3, .bool false])]) (k := 60) mixedP (by kernel_rfl) W
set_option maxRecDepth 100000 in
theorem m_print3 (W : World) : Calls Tryz.prog 7 #[(.agg #[.int .u8 8, .bool false])] W fun e W' => e = .returned (.tuple #[.string (tx []), .int .i64 2]) ∧ Below W.heap.size W W' :=
  Rf.runs_val (args := [(.agg #[.int .u8 8, .bool false])]) (k := 60) mixedP (by kernel_rfl) W
set_option maxRecDepth 100000 in
theorem m_trim_t0 (W : World) : Calls Tryz.prog 23 #[(.string (tx [105, 61, 63, 48, 44, 117, 61, 49])), (.string (tx [32]))] W fun e W' => e = .returned (.string (tx [105, 61, 63, 48, 44, 117, 61, 49])) ∧ Below W.heap.size W W' :=
  Rf.runs_val (args := [(.string (tx [105, 61, 63, 48, 44, 117, 61, 49])), (.string (tx [32]))]) (k := 60) mixedP (by kernel_rfl) W
set_option maxRecDepth 100000 in
theorem m_trim_t1 (W : World) : Calls Tryz.prog 23 #[(.string (tx [117, 61, 57, 44, 32, 105])), (.string (tx [32]))] W fun e W' => e = .returned (.string (tx [117, 61, 57, 44, 32, 105])) ∧ Below W.heap.size W W' :=
  Rf.runs_val (args := [(.string (tx [117, 61, 57, 44, 32, 105])), (.string (tx [32]))]) (k := 60) mixedP (by kernel_rfl) W
set_option maxRecDepth 100000 in
theorem m_trim_t2 (W : World) : Calls Tryz.prog 23 #[(.string (tx [117, 61, 49, 44, 117, 61, 120])), (.string (tx [32]))] W fun e W' => e = .returned (.string (tx [117, 61, 49, 44, 117, 61, 120])) ∧ Below W.heap.size W W' :=
  Rf.runs_val (args := [(.string (tx [117, 61, 49, 44, 117, 61, 120])), (.string (tx [32]))]) (k := 60) mixedP (by kernel_rfl) W
set_option maxRecDepth 100000 in
theorem m_trim_t3 (W : World) : Calls Tryz.prog 23 #[(.string (tx [44, 105])), (.string (tx [32]))] W fun e W' => e = .returned (.string (tx [44, 105])) ∧ Below W.heap.size W W' :=
  Rf.runs_val (args := [(.string (tx [44, 105])), (.string (tx [32]))]) (k := 60) mixedP (by kernel_rfl) W
set_option maxRecDepth 100000 in
theorem m_trim_t4 (W : World) : Calls Tryz.prog 23 #[(.string (tx [105, 61, 63, 48])), (.string (tx [32]))] W fun e W' => e = .returned (.string (tx [105, 61, 63, 48])) ∧ Below W.heap.size W W' :=
  Rf.runs_val (args := [(.string (tx [105, 61, 63, 48])), (.string (tx [32]))]) (k := 60) mixedP (by kernel_rfl) W
set_option maxRecDepth 100000 in
theorem m_trim_t5 (W : World) : Calls Tryz.prog 23 #[(.string (tx [117, 61, 49])), (.string (tx [32]))] W fun e W' => e = .returned (.string (tx [117, 61, 49])) ∧ Below W.heap.size W W' :=
  Rf.runs_val (args := [(.string (tx [117, 61, 49])), (.string (tx [32]))]) (k := 60) mixedP (by kernel_rfl) W
set_option maxRecDepth 100000 in
theorem m_trim_t6 (W : World) : Calls Tryz.prog 23 #[(.string (tx [117, 61, 57])), (.string (tx [32]))] W fun e W' => e = .returned (.string (tx [117, 61, 57])) ∧ Below W.heap.size W W' :=
  Rf.runs_val (args := [(.string (tx [117, 61, 57])), (.string (tx [32]))]) (k := 60) mixedP (by kernel_rfl) W
set_option maxRecDepth 100000 in
theorem m_trim_t7 (W : World) : Calls Tryz.prog 23 #[(.string (tx [32, 105])), (.string (tx [32]))] W fun e W' => e = .returned (.string (tx [105])) ∧ Below W.heap.size W W' :=
  Rf.runs_val (args := [(.string (tx [32, 105])), (.string (tx [32]))]) (k := 60) mixedP (by kernel_rfl) W
set_option maxRecDepth 100000 in
theorem m_trim_t8 (W : World) : Calls Tryz.prog 23 #[(.string (tx [117, 61, 120])), (.string (tx [32]))] W fun e W' => e = .returned (.string (tx [117, 61, 120])) ∧ Below W.heap.size W W' :=
  Rf.runs_val (args := [(.string (tx [117, 61, 120])), (.string (tx [32]))]) (k := 60) mixedP (by kernel_rfl) W
set_option maxRecDepth 100000 in
theorem m_trim_t9 (W : World) : Calls Tryz.prog 23 #[(.string (tx [])), (.string (tx [32]))] W fun e W' => e = .returned (.string (tx [])) ∧ Below W.heap.size W W' :=
  Rf.runs_val (args := [(.string (tx [])), (.string (tx [32]))]) (k := 60) mixedP (by kernel_rfl) W
set_option maxRecDepth 100000 in
theorem m_trim_t10 (W : World) : Calls Tryz.prog 23 #[(.string (tx [105])), (.string (tx [32]))] W fun e W' => e = .returned (.string (tx [105])) ∧ Below W.heap.size W W' :=
  Rf.runs_val (args := [(.string (tx [105])), (.string (tx [32]))]) (k := 60) mixedP (by kernel_rfl) W
set_option maxRecDepth 100000 in
theorem m_index_t0 (W : World) : Calls Tryz.prog 62 #[(.string (tx [105, 61, 63, 48, 44, 117, 61, 49])), (.string (tx [44]))] W fun e W' => e = .returned (.int .i64 (4)) ∧ Below W.heap.size W W' :=
  Rf.runs_val (args := [(.string (tx [105, 61, 63, 48, 44, 117, 61, 49])), (.string (tx [44]))]) (k := 60) mixedP (by kernel_rfl) W
set_option maxRecDepth 100000 in
theorem m_index_t5 (W : World) : Calls Tryz.prog 62 #[(.string (tx [117, 61, 49])), (.string (tx [44]))] W fun e W' => e = .returned (.int .i64 (-1)) ∧ Below W.heap.size W W' :=
  Rf.runs_val (args := [(.string (tx [117, 61, 49])), (.string (tx [44]))]) (k := 60) mixedP (by kernel_rfl) W
set_option maxRecDepth 100000 in
theorem m_index_t1 (W : World) : Calls Tryz.prog 62 #[(.string (tx [117, 61, 57, 44, 32, 105])), (.string (tx [44]))] W fun e W' => e = .returned (.int .i64 (3)) ∧ Below W.heap.size W W' :=
  Rf.runs_val (args := [(.string (tx [117, 61, 57, 44, 32, 105])), (.string (tx [44]))]) (k := 60) mixedP (by kernel_rfl) W
set_option maxRecDepth 100000 in
theorem m_index_t7 (W : World) : Calls Tryz.prog 62 #[(.string (tx [32, 105])), (.string (tx [44]))] W fun e W' => e = .returned (.int .i64 (-1)) ∧ Below W.heap.size W W' :=
  Rf.runs_val (args := [(.string (tx [32, 105])), (.string (tx [44]))]) (k := 60) mixedP (by kernel_rfl) W
set_option maxRecDepth 100000 in
theorem m_index_t2 (W : World) : Calls Tryz.prog 62 #[(.string (tx [117, 61, 49, 44, 117, 61, 120])), (.string (tx [44]))] W fun e W' => e = .returned (.int .i64 (3)) ∧ Below W.heap.size W W' :=
  Rf.runs_val (args := [(.string (tx [117, 61, 49, 44, 117, 61, 120])), (.string (tx [44]))]) (k := 60) mixedP (by kernel_rfl) W
set_option maxRecDepth 100000 in
theorem m_index_t8 (W : World) : Calls Tryz.prog 62 #[(.string (tx [117, 61, 120])), (.string (tx [44]))] W fun e W' => e = .returned (.int .i64 (-1)) ∧ Below W.heap.size W W' :=
  Rf.runs_val (args := [(.string (tx [117, 61, 120])), (.string (tx [44]))]) (k := 60) mixedP (by kernel_rfl) W
set_option maxRecDepth 100000 in
theorem m_index_t3 (W : World) : Calls Tryz.prog 62 #[(.string (tx [44, 105])), (.string (tx [44]))] W fun e W' => e = .returned (.int .i64 (0)) ∧ Below W.heap.size W W' :=
  Rf.runs_val (args := [(.string (tx [44, 105])), (.string (tx [44]))]) (k := 60) mixedP (by kernel_rfl) W
set_option maxRecDepth 100000 in
theorem m_index_t10 (W : World) : Calls Tryz.prog 62 #[(.string (tx [105])), (.string (tx [44]))] W fun e W' => e = .returned (.int .i64 (-1)) ∧ Below W.heap.size W W' :=
  Rf.runs_val (args := [(.string (tx [105])), (.string (tx [44]))]) (k := 60) mixedP (by kernel_rfl) W
set_option maxRecDepth 100000 in
theorem m_cut_t4 (W : World) : Calls Tryz.prog 44 #[(.string (tx [105, 61, 63, 48])), (.string (tx [61]))] W fun e W' => e = .returned (.tuple #[.string (tx [105]), .string (tx [63, 48]), .bool true]) ∧ Below W.heap.size W W' :=
  Rf.runs_val (args := [(.string (tx [105, 61, 63, 48])), (.string (tx [61]))]) (k := 60) mixedP (by kernel_rfl) W
set_option maxRecDepth 100000 in
theorem m_value_t11 (W : World) : Calls Tryz.prog 45 #[(.string (tx [63, 48]))] W fun e W' => e = .returned (.tuple #[.int .i64 0, .bool true, .bool true]) ∧ Below W.heap.size W W' :=
  Rf.runs_val (args := [(.string (tx [63, 48]))]) (k := 60) mixedP (by kernel_rfl) W
set_option maxRecDepth 100000 in
theorem m_key_t10 (W : World) : Calls Tryz.prog 46 #[(.string (tx [105]))] W fun e W' => e = .returned (.bool true) ∧ Below W.heap.size W W' :=
  Rf.runs_val (args := [(.string (tx [105]))]) (k := 60) mixedP (by kernel_rfl) W
set_option maxRecDepth 100000 in
theorem m_cut_t5 (W : World) : Calls Tryz.prog 44 #[(.string (tx [117, 61, 49])), (.string (tx [61]))] W fun e W' => e = .returned (.tuple #[.string (tx [117]), .string (tx [49]), .bool true]) ∧ Below W.heap.size W W' :=
  Rf.runs_val (args := [(.string (tx [117, 61, 49])), (.string (tx [61]))]) (k := 60) mixedP (by kernel_rfl) W
set_option maxRecDepth 100000 in
theorem m_value_t12 (W : World) : Calls Tryz.prog 45 #[(.string (tx [49]))] W fun e W' => e = .returned (.tuple #[.int .i64 1, .bool false, .bool true]) ∧ Below W.heap.size W W' :=
  Rf.runs_val (args := [(.string (tx [49]))]) (k := 60) mixedP (by kernel_rfl) W
set_option maxRecDepth 100000 in
theorem m_key_t13 (W : World) : Calls Tryz.prog 46 #[(.string (tx [117]))] W fun e W' => e = .returned (.bool true) ∧ Below W.heap.size W W' :=
  Rf.runs_val (args := [(.string (tx [117]))]) (k := 60) mixedP (by kernel_rfl) W
set_option maxRecDepth 100000 in
theorem m_cut_t6 (W : World) : Calls Tryz.prog 44 #[(.string (tx [117, 61, 57])), (.string (tx [61]))] W fun e W' => e = .returned (.tuple #[.string (tx [117]), .string (tx [57]), .bool true]) ∧ Below W.heap.size W W' :=
  Rf.runs_val (args := [(.string (tx [117, 61, 57])), (.string (tx [61]))]) (k := 60) mixedP (by kernel_rfl) W
set_option maxRecDepth 100000 in
theorem m_value_t14 (W : World) : Calls Tryz.prog 45 #[(.string (tx [57]))] W fun e W' => e = .returned (.tuple #[.int .i64 9, .bool false, .bool true]) ∧ Below W.heap.size W W' :=
  Rf.runs_val (args := [(.string (tx [57]))]) (k := 60) mixedP (by kernel_rfl) W
set_option maxRecDepth 100000 in
theorem m_cut_t10 (W : World) : Calls Tryz.prog 44 #[(.string (tx [105])), (.string (tx [61]))] W fun e W' => e = .returned (.tuple #[.string (tx [105]), .string (tx []), .bool false]) ∧ Below W.heap.size W W' :=
  Rf.runs_val (args := [(.string (tx [105])), (.string (tx [61]))]) (k := 60) mixedP (by kernel_rfl) W
set_option maxRecDepth 100000 in
theorem m_value_t15 (W : World) : Calls Tryz.prog 45 #[(.string (tx [63, 49]))] W fun e W' => e = .returned (.tuple #[.int .i64 1, .bool true, .bool true]) ∧ Below W.heap.size W W' :=
  Rf.runs_val (args := [(.string (tx [63, 49]))]) (k := 60) mixedP (by kernel_rfl) W
set_option maxRecDepth 100000 in
theorem m_cut_t8 (W : World) : Calls Tryz.prog 44 #[(.string (tx [117, 61, 120])), (.string (tx [61]))] W fun e W' => e = .returned (.tuple #[.string (tx [117]), .string (tx [120]), .bool true]) ∧ Below W.heap.size W W' :=
  Rf.runs_val (args := [(.string (tx [117, 61, 120])), (.string (tx [61]))]) (k := 60) mixedP (by kernel_rfl) W
set_option maxRecDepth 100000 in
theorem m_value_t16 (W : World) : Calls Tryz.prog 45 #[(.string (tx [120]))] W fun e W' => e = .returned (.tuple #[.int .i64 0, .bool false, .bool false]) ∧ Below W.heap.size W W' :=
  Rf.runs_val (args := [(.string (tx [120]))]) (k := 60) mixedP (by kernel_rfl) W
set_option maxRecDepth 100000 in
theorem m_cut_t9 (W : World) : Calls Tryz.prog 44 #[(.string (tx [])), (.string (tx [61]))] W fun e W' => e = .returned (.tuple #[.string (tx []), .string (tx []), .bool false]) ∧ Below W.heap.size W W' :=
  Rf.runs_val (args := [(.string (tx [])), (.string (tx [61]))]) (k := 60) mixedP (by kernel_rfl) W
set_option maxRecDepth 100000 in
theorem m_key_t9 (W : World) : Calls Tryz.prog 46 #[(.string (tx []))] W fun e W' => e = .returned (.bool false) ∧ Below W.heap.size W W' :=
  Rf.runs_val (args := [(.string (tx []))]) (k := 60) mixedP (by kernel_rfl) W
end Go.Proofs.YtjkihpbpnoelnaaGreatDoor
