/- What a kind has not: bare (written by gen_frw5.py). -/
import Derived.Test.YtcpjehgoeibbeaaFrMa
namespace Go.Proofs.Ytcpjehgoeibbeaa
open Go.RowKit
set_option linter.unusedVariables false
namespace Frm
open Var
theorem blk_at {w : World} {n : Nat} {cs cs' : Array Value} {T : TypeId} (hn : n = w.heap.size) (hc : cs = cs') : Blk (w.alloc (.cells cs T)) n cs' T := by
  subst hn hc; exact Blk.new w _ _
theorem fm0_at {w : World} {n : Nat} (hn : n = w.heap.size) : FB (w.alloc (.cells (fm0 0).vals 36)) n (fm0 0) := blk_at hn rfl
section
variable {P : Program} {ops : Array Oper} {rest : List Oper} {o : Oper} {a : Act} {w : World} {Q : Exit → Act → World → Prop}
theorem stop_ste {d : Option Tmp} {x y : Operand} {ty : TypeId} {pos : String} {aft : Array Edge} {g : Option (Nat × Bool)}
    (h : Stop (wpList P ops Q (⟨d, .store 34 x y, ty, pos, aft, g⟩ :: rest) a w)) : wpList P ops Q (⟨d, .store 34 x y, ty, pos, aft, g⟩ :: rest) a w := h
end
theorem ecn_size : (Try.prog.info? 34).map (·.size) = some 3 := by kernel_rfl
theorem tok_size : (Try.prog.info? 32).map (·.size) = some 16 := by kernel_rfl

set_option maxHeartbeats 4000000 in
set_option maxRecDepth 100000 in
theorem bare_0 (p : FM) (w : World) (h16 : p.f.tok.length = 16)  (hk : p.f.kind = 0) : Calls Try.prog 26 #[.agg p.vals] w fun e w' => (∃ q : FM, q.f = bareF p.f ∧ e = .returned (.agg q.vals)) ∧ Below w.heap.size w w' := by
  go_enter Try.func26, Try.ntmps26
  go_wp2_with (first | with_reducible refine stop_ldf ?_ | with_reducible refine stop_stf ?_)
  refine Stop.out ?_
  refine wpList_loadF rfl rfl p h16 rfl (Blk.alloc (Blk.new w p.vals 36) _) ?_
  go_wp2_with (first | with_reducible refine stop_ldf ?_ | with_reducible refine stop_stf ?_)
  refine Stop.out ?_
  refine wpList_storeF rfl rfl p (fm0 0) h16 rfl rfl rfl (fm0_at (by simp)) ?_
  intro w4 hb4 o4
  have z4 := o4.size
  simp only [World.size_alloc] at z4
  have hbox : FB w4 w.heap.size p := o4.blk (Blk.alloc (Blk.alloc (Blk.new w p.vals 36) _) _) (by omega)
  have hres : FB w4 (w.heap.size + 1) (fm0 0) := o4.blk (Blk.alloc (fm0_at (by simp)) _) (by omega)
  have bl4 : Below w.heap.size w w4 := below_onto ((((Below.refl _ _).alloc (Nat.le_refl _) _).alloc (by simp) _).alloc (by simp; omega) _) o4 (by simp; omega) (by intro z hz h; omega)
  have c0 := (hbox.fc h16).c0
  rw [hk] at c0
  have HO := hb4.fc h16
  have x1 := HO.c1
  have x2 := HO.c2
  have x5 := HO.c5
  have x6 := HO.c6
  have x8 := HO.c8
  have x25 := HO.c25
  have x26 := HO.c26
  have f1 := HO.free 1
  have f2 := HO.free 2
  have f5 := HO.free 5
  have f6 := HO.free 6
  have f8 := HO.free 8
  have f25 := HO.free 25
  have f26 := HO.free 26
  have HB4 := Lib.hid hb4
  have HR := Lib.hid hres
  have H16 := Lib.hid h16
  have HK := Lib.hid hk
  clear hb4 hres o4 HO hbox h16 hk
  have HX8 := Lib.hid ((Only.refl (· = w.heap.size + 1 + 1) w4).set 5 (.int .u64 0))
  go_wp2_with (with_reducible refine stop_ldf ?_)
  refine Stop.out ?_
  refine wpList_loadF rfl rfl (p.setN 0) (by exact H16.out) rfl (HB4.out.n 0) ?_
  go_wp2_with (with_reducible refine stop_stf ?_)
  refine Stop.out ?_
  refine wpList_storeF rfl rfl (p.setN 0) (fm0 0) (by exact H16.out) rfl rfl rfl (HX8.out.blk HR.out (by omega)) ?_
  intro w9 hb9 o9
  go_wp2_with (fail)
  refine bodyPost_ret (results_cell_row rfl _ _ _ _ _ _ _ rfl hb9 Try.underlying36 rfl (by rw [FM.size _ (by exact H16.out)]; exact fr_size)) rfl ?_
  refine ⟨⟨(p.setN 0), ?_, rfl⟩, below_onto (below_onto bl4 HX8.out (by omega) (by intro z hz h; omega)) o9 (by have := HX8.out.size; omega) (by intro z hz h; omega)⟩
  have hk := HK.out
  obtain ⟨⟨k', _, _, _, _, _, _, _, _, _, _, _, _, _, _⟩, _, _, _, _, _, _⟩ := p
  obtain rfl : k' = 0 := hk
  rfl

set_option maxHeartbeats 4000000 in
set_option maxRecDepth 100000 in
theorem bare_2 (p : FM) (w : World) (h16 : p.f.tok.length = 16)  (hk : p.f.kind = 2) : Calls Try.prog 26 #[.agg p.vals] w fun e w' => (∃ q : FM, q.f = bareF p.f ∧ e = .returned (.agg q.vals)) ∧ Below w.heap.size w w' := by
  go_enter Try.func26, Try.ntmps26
  go_wp2_with (first | with_reducible refine stop_ldf ?_ | with_reducible refine stop_stf ?_)
  refine Stop.out ?_
  refine wpList_loadF rfl rfl p h16 rfl (Blk.alloc (Blk.new w p.vals 36) _) ?_
  go_wp2_with (first | with_reducible refine stop_ldf ?_ | with_reducible refine stop_stf ?_)
  refine Stop.out ?_
  refine wpList_storeF rfl rfl p (fm0 0) h16 rfl rfl rfl (fm0_at (by simp)) ?_
  intro w4 hb4 o4
  have z4 := o4.size
  simp only [World.size_alloc] at z4
  have hbox : FB w4 w.heap.size p := o4.blk (Blk.alloc (Blk.alloc (Blk.new w p.vals 36) _) _) (by omega)
  have hres : FB w4 (w.heap.size + 1) (fm0 0) := o4.blk (Blk.alloc (fm0_at (by simp)) _) (by omega)
  have bl4 : Below w.heap.size w w4 := below_onto ((((Below.refl _ _).alloc (Nat.le_refl _) _).alloc (by simp) _).alloc (by simp; omega) _) o4 (by simp; omega) (by intro z hz h; omega)
  have c0 := (hbox.fc h16).c0
  rw [hk] at c0
  have HO := hb4.fc h16
  have x1 := HO.c1
  have x2 := HO.c2
  have x5 := HO.c5
  have x6 := HO.c6
  have x8 := HO.c8
  have x25 := HO.c25
  have x26 := HO.c26
  have f1 := HO.free 1
  have f2 := HO.free 2
  have f5 := HO.free 5
  have f6 := HO.free 6
  have f8 := HO.free 8
  have f25 := HO.free 25
  have f26 := HO.free 26
  have HB4 := Lib.hid hb4
  have HR := Lib.hid hres
  have H16 := Lib.hid h16
  have HK := Lib.hid hk
  clear hb4 hres o4 HO hbox h16 hk
  have HX8 := Lib.hid (((Only.refl (· = w.heap.size + 1 + 1) w4).set 25 (.slice none 0 0)).set 26 (.int .u64 0))
  go_wp2_with (with_reducible refine stop_ldf ?_)
  refine Stop.out ?_
  refine wpList_loadF rfl rfl ((p.setAcks none 0 []).setDelay 0) (by exact H16.out) rfl ((HB4.out.acks H16.out none 0 []).delay (by exact H16.out) 0) ?_
  go_wp2_with (with_reducible refine stop_stf ?_)
  refine Stop.out ?_
  refine wpList_storeF rfl rfl ((p.setAcks none 0 []).setDelay 0) (fm0 0) (by exact H16.out) rfl rfl rfl (HX8.out.blk HR.out (by omega)) ?_
  intro w9 hb9 o9
  go_wp2_with (fail)
  refine bodyPost_ret (results_cell_row rfl _ _ _ _ _ _ _ rfl hb9 Try.underlying36 rfl (by rw [FM.size _ (by exact H16.out)]; exact fr_size)) rfl ?_
  refine ⟨⟨((p.setAcks none 0 []).setDelay 0), ?_, rfl⟩, below_onto (below_onto bl4 HX8.out (by omega) (by intro z hz h; omega)) o9 (by have := HX8.out.size; omega) (by intro z hz h; omega)⟩
  have hk := HK.out
  obtain ⟨⟨k', _, _, _, _, _, _, _, _, _, _, _, _, _, _⟩, _, _, _, _, _, _⟩ := p
  obtain rfl : k' = 2 := hk
  rfl

set_option maxHeartbeats 4000000 in
set_option maxRecDepth 100000 in
theorem bare_3 (p : FM) (w : World) (h16 : p.f.tok.length = 16)  (hk : p.f.kind = 3) : Calls Try.prog 26 #[.agg p.vals] w fun e w' => (∃ q : FM, q.f = bareF p.f ∧ e = .returned (.agg q.vals)) ∧ Below w.heap.size w w' := by
  go_enter Try.func26, Try.ntmps26
  go_wp2_with (first | with_reducible refine stop_ldf ?_ | with_reducible refine stop_stf ?_)
  refine Stop.out ?_
  refine wpList_loadF rfl rfl p h16 rfl (Blk.alloc (Blk.new w p.vals 36) _) ?_
  go_wp2_with (first | with_reducible refine stop_ldf ?_ | with_reducible refine stop_stf ?_)
  refine Stop.out ?_
  refine wpList_storeF rfl rfl p (fm0 0) h16 rfl rfl rfl (fm0_at (by simp)) ?_
  intro w4 hb4 o4
  have z4 := o4.size
  simp only [World.size_alloc] at z4
  have hbox : FB w4 w.heap.size p := o4.blk (Blk.alloc (Blk.alloc (Blk.new w p.vals 36) _) _) (by omega)
  have hres : FB w4 (w.heap.size + 1) (fm0 0) := o4.blk (Blk.alloc (fm0_at (by simp)) _) (by omega)
  have bl4 : Below w.heap.size w w4 := below_onto ((((Below.refl _ _).alloc (Nat.le_refl _) _).alloc (by simp) _).alloc (by simp; omega) _) o4 (by simp; omega) (by intro z hz h; omega)
  have c0 := (hbox.fc h16).c0
  rw [hk] at c0
  have HO := hb4.fc h16
  have x1 := HO.c1
  have x2 := HO.c2
  have x5 := HO.c5
  have x6 := HO.c6
  have x8 := HO.c8
  have x25 := HO.c25
  have x26 := HO.c26
  have f1 := HO.free 1
  have f2 := HO.free 2
  have f5 := HO.free 5
  have f6 := HO.free 6
  have f8 := HO.free 8
  have f25 := HO.free 25
  have f26 := HO.free 26
  have HB4 := Lib.hid hb4
  have HR := Lib.hid hres
  have H16 := Lib.hid h16
  have HK := Lib.hid hk
  clear hb4 hres o4 HO hbox h16 hk
  go_wp2_with (with_reducible refine stop_ste ?_)
  refine Stop.out ?_
  refine wpList_storePart rfl rfl ((p.setAcks none 0 []).setDelay 0).list [.int .u64 0, .int .u64 0, .int .u64 0] rfl rfl ((HB4.out.acks H16.out none 0 []).delay (by exact H16.out) 0) ecn_size (by rw [FM.length _ (by exact H16.out)]; decide) (by simp [Value.oneCell']) ?_
  intro w6 hb6 o6
  have HQ := Lib.hid (FB.stEcn (p := (p.setAcks none 0 []).setDelay 0) (by exact H16.out) 0 0 0 hb6)
  have HX := Lib.hid ((((Only.refl (· = w.heap.size + 1 + 1) w4).set 25 (.slice none 0 0)).set 26 (.int .u64 0)).trans o6)
  clear hb6 o6
  go_wp2_with (with_reducible refine stop_ldf ?_)
  refine Stop.out ?_
  refine wpList_loadF rfl rfl (((p.setAcks none 0 []).setDelay 0).setEcn 0 0 0) (by exact H16.out) rfl HQ.out ?_
  go_wp2_with (with_reducible refine stop_stf ?_)
  refine Stop.out ?_
  refine wpList_storeF rfl rfl (((p.setAcks none 0 []).setDelay 0).setEcn 0 0 0) (fm0 0) (by exact H16.out) rfl rfl rfl (HX.out.blk HR.out (by omega)) ?_
  intro w9 hb9 o9
  go_wp2_with (fail)
  refine bodyPost_ret (results_cell_row rfl _ _ _ _ _ _ _ rfl hb9 Try.underlying36 rfl (by rw [FM.size _ (by exact H16.out)]; exact fr_size)) rfl ?_
  refine ⟨⟨(((p.setAcks none 0 []).setDelay 0).setEcn 0 0 0), ?_, rfl⟩, below_onto (below_onto bl4 HX.out (by omega) (by intro z hz h; omega)) o9 (by have := HX.out.size; omega) (by intro z hz h; omega)⟩
  have hk := HK.out
  obtain ⟨⟨k', _, _, _, _, _, _, _, _, _, _, _, _, _, _⟩, _, _, _, _, _, _⟩ := p
  obtain rfl : k' = 3 := hk
  rfl

set_option maxHeartbeats 4000000 in
set_option maxRecDepth 100000 in
theorem bare_4 (p : FM) (w : World) (h16 : p.f.tok.length = 16)  (hk : p.f.kind = 4) : Calls Try.prog 26 #[.agg p.vals] w fun e w' => (∃ q : FM, q.f = bareF p.f ∧ e = .returned (.agg q.vals)) ∧ Below w.heap.size w w' := by
  go_enter Try.func26, Try.ntmps26
  go_wp2_with (first | with_reducible refine stop_ldf ?_ | with_reducible refine stop_stf ?_)
  refine Stop.out ?_
  refine wpList_loadF rfl rfl p h16 rfl (Blk.alloc (Blk.new w p.vals 36) _) ?_
  go_wp2_with (first | with_reducible refine stop_ldf ?_ | with_reducible refine stop_stf ?_)
  refine Stop.out ?_
  refine wpList_storeF rfl rfl p (fm0 0) h16 rfl rfl rfl (fm0_at (by simp)) ?_
  intro w4 hb4 o4
  have z4 := o4.size
  simp only [World.size_alloc] at z4
  have hbox : FB w4 w.heap.size p := o4.blk (Blk.alloc (Blk.alloc (Blk.new w p.vals 36) _) _) (by omega)
  have hres : FB w4 (w.heap.size + 1) (fm0 0) := o4.blk (Blk.alloc (fm0_at (by simp)) _) (by omega)
  have bl4 : Below w.heap.size w w4 := below_onto ((((Below.refl _ _).alloc (Nat.le_refl _) _).alloc (by simp) _).alloc (by simp; omega) _) o4 (by simp; omega) (by intro z hz h; omega)
  have c0 := (hbox.fc h16).c0
  rw [hk] at c0
  have HO := hb4.fc h16
  have x1 := HO.c1
  have x2 := HO.c2
  have x5 := HO.c5
  have x6 := HO.c6
  have x8 := HO.c8
  have x25 := HO.c25
  have x26 := HO.c26
  have f1 := HO.free 1
  have f2 := HO.free 2
  have f5 := HO.free 5
  have f6 := HO.free 6
  have f8 := HO.free 8
  have f25 := HO.free 25
  have f26 := HO.free 26
  have HB4 := Lib.hid hb4
  have HR := Lib.hid hres
  have H16 := Lib.hid h16
  have HK := Lib.hid hk
  clear hb4 hres o4 HO hbox h16 hk
  go_wp2_with (fail)
  refine (drop_any w4.heap.size (w.heap.size + 1 + 1) [.id, .code, .most] p _ 1 (by decide) (blk_at (by simp) rfl) (Blk.alloc HB4.out _) (by omega)).mono ?_
  rintro e w7 ⟨rfl, hq7, o7⟩
  have HQ7 := Lib.hid hq7
  have HX7 := Lib.hid (((Only.refl (· = w.heap.size + 1 + 1) w4).alloc _).trans o7)
  clear hq7 o7
  go_wp2_with (with_reducible refine stop_ldf ?_)
  refine Stop.out ?_
  refine wpList_loadF rfl rfl (effs p [.id, .code, .most]) (by exact H16.out) rfl HQ7.out ?_
  go_wp2_with (with_reducible refine stop_stf ?_)
  refine Stop.out ?_
  refine wpList_storeF rfl rfl (effs p [.id, .code, .most]) (fm0 0) (by exact H16.out) rfl rfl rfl (HX7.out.blk HR.out (by omega)) ?_
  intro w9 hb9 o9
  go_wp2_with (fail)
  refine bodyPost_ret (results_cell_row rfl _ _ _ _ _ _ _ rfl hb9 Try.underlying36 rfl (by rw [FM.size _ (by exact H16.out)]; exact fr_size)) rfl ?_
  refine ⟨⟨(effs p [.id, .code, .most]), ?_, rfl⟩, below_onto (below_onto bl4 HX7.out (by omega) (by intro z hz h; omega)) o9 (by have := HX7.out.size; omega) (by intro z hz h; omega)⟩
  have hk := HK.out
  obtain ⟨⟨k', _, _, _, _, _, _, _, _, _, _, _, _, _, _⟩, _, _, _, _, _, _⟩ := p
  obtain rfl : k' = 4 := hk
  rfl

set_option maxHeartbeats 4000000 in
set_option maxRecDepth 100000 in
theorem bare_5 (p : FM) (w : World) (h16 : p.f.tok.length = 16)  (hk : p.f.kind = 5) : Calls Try.prog 26 #[.agg p.vals] w fun e w' => (∃ q : FM, q.f = bareF p.f ∧ e = .returned (.agg q.vals)) ∧ Below w.heap.size w w' := by
  go_enter Try.func26, Try.ntmps26
  go_wp2_with (first | with_reducible refine stop_ldf ?_ | with_reducible refine stop_stf ?_)
  refine Stop.out ?_
  refine wpList_loadF rfl rfl p h16 rfl (Blk.alloc (Blk.new w p.vals 36) _) ?_
  go_wp2_with (first | with_reducible refine stop_ldf ?_ | with_reducible refine stop_stf ?_)
  refine Stop.out ?_
  refine wpList_storeF rfl rfl p (fm0 0) h16 rfl rfl rfl (fm0_at (by simp)) ?_
  intro w4 hb4 o4
  have z4 := o4.size
  simp only [World.size_alloc] at z4
  have hbox : FB w4 w.heap.size p := o4.blk (Blk.alloc (Blk.alloc (Blk.new w p.vals 36) _) _) (by omega)
  have hres : FB w4 (w.heap.size + 1) (fm0 0) := o4.blk (Blk.alloc (fm0_at (by simp)) _) (by omega)
  have bl4 : Below w.heap.size w w4 := below_onto ((((Below.refl _ _).alloc (Nat.le_refl _) _).alloc (by simp) _).alloc (by simp; omega) _) o4 (by simp; omega) (by intro z hz h; omega)
  have c0 := (hbox.fc h16).c0
  rw [hk] at c0
  have HO := hb4.fc h16
  have x1 := HO.c1
  have x2 := HO.c2
  have x5 := HO.c5
  have x6 := HO.c6
  have x8 := HO.c8
  have x25 := HO.c25
  have x26 := HO.c26
  have f1 := HO.free 1
  have f2 := HO.free 2
  have f5 := HO.free 5
  have f6 := HO.free 6
  have f8 := HO.free 8
  have f25 := HO.free 25
  have f26 := HO.free 26
  have HB4 := Lib.hid hb4
  have HR := Lib.hid hres
  have H16 := Lib.hid h16
  have HK := Lib.hid hk
  clear hb4 hres o4 HO hbox h16 hk
  go_wp2_with (fail)
  refine (drop_any w4.heap.size (w.heap.size + 1 + 1) [.id, .code] p _ 1 (by decide) (blk_at (by simp) rfl) (Blk.alloc HB4.out _) (by omega)).mono ?_
  rintro e w7 ⟨rfl, hq7, o7⟩
  have HQ7 := Lib.hid hq7
  have HX7 := Lib.hid (((Only.refl (· = w.heap.size + 1 + 1) w4).alloc _).trans o7)
  clear hq7 o7
  go_wp2_with (with_reducible refine stop_ldf ?_)
  refine Stop.out ?_
  refine wpList_loadF rfl rfl (effs p [.id, .code]) (by exact H16.out) rfl HQ7.out ?_
  go_wp2_with (with_reducible refine stop_stf ?_)
  refine Stop.out ?_
  refine wpList_storeF rfl rfl (effs p [.id, .code]) (fm0 0) (by exact H16.out) rfl rfl rfl (HX7.out.blk HR.out (by omega)) ?_
  intro w9 hb9 o9
  go_wp2_with (fail)
  refine bodyPost_ret (results_cell_row rfl _ _ _ _ _ _ _ rfl hb9 Try.underlying36 rfl (by rw [FM.size _ (by exact H16.out)]; exact fr_size)) rfl ?_
  refine ⟨⟨(effs p [.id, .code]), ?_, rfl⟩, below_onto (below_onto bl4 HX7.out (by omega) (by intro z hz h; omega)) o9 (by have := HX7.out.size; omega) (by intro z hz h; omega)⟩
  have hk := HK.out
  obtain ⟨⟨k', _, _, _, _, _, _, _, _, _, _, _, _, _, _⟩, _, _, _, _, _, _⟩ := p
  obtain rfl : k' = 5 := hk
  rfl

set_option maxHeartbeats 4000000 in
set_option maxRecDepth 100000 in
theorem bare_6 (p : FM) (w : World) (h16 : p.f.tok.length = 16)  (hk : p.f.kind = 6) : Calls Try.prog 26 #[.agg p.vals] w fun e w' => (∃ q : FM, q.f = bareF p.f ∧ e = .returned (.agg q.vals)) ∧ Below w.heap.size w w' := by
  go_enter Try.func26, Try.ntmps26
  go_wp2_with (first | with_reducible refine stop_ldf ?_ | with_reducible refine stop_stf ?_)
  refine Stop.out ?_
  refine wpList_loadF rfl rfl p h16 rfl (Blk.alloc (Blk.new w p.vals 36) _) ?_
  go_wp2_with (first | with_reducible refine stop_ldf ?_ | with_reducible refine stop_stf ?_)
  refine Stop.out ?_
  refine wpList_storeF rfl rfl p (fm0 0) h16 rfl rfl rfl (fm0_at (by simp)) ?_
  intro w4 hb4 o4
  have z4 := o4.size
  simp only [World.size_alloc] at z4
  have hbox : FB w4 w.heap.size p := o4.blk (Blk.alloc (Blk.alloc (Blk.new w p.vals 36) _) _) (by omega)
  have hres : FB w4 (w.heap.size + 1) (fm0 0) := o4.blk (Blk.alloc (fm0_at (by simp)) _) (by omega)
  have bl4 : Below w.heap.size w w4 := below_onto ((((Below.refl _ _).alloc (Nat.le_refl _) _).alloc (by simp) _).alloc (by simp; omega) _) o4 (by simp; omega) (by intro z hz h; omega)
  have c0 := (hbox.fc h16).c0
  rw [hk] at c0
  have HO := hb4.fc h16
  have x1 := HO.c1
  have x2 := HO.c2
  have x5 := HO.c5
  have x6 := HO.c6
  have x8 := HO.c8
  have x25 := HO.c25
  have x26 := HO.c26
  have f1 := HO.free 1
  have f2 := HO.free 2
  have f5 := HO.free 5
  have f6 := HO.free 6
  have f8 := HO.free 8
  have f25 := HO.free 25
  have f26 := HO.free 26
  have HB4 := Lib.hid hb4
  have HR := Lib.hid hres
  have H16 := Lib.hid h16
  have HK := Lib.hid hk
  clear hb4 hres o4 HO hbox h16 hk
  go_wp2_with (fail)
  refine (drop_any w4.heap.size (w.heap.size + 1 + 1) [.data] (p.setOff 0) _ 1 (by decide) (blk_at (by simp) rfl) (Blk.alloc (HB4.out.off 0) _) (by omega)).mono ?_
  rintro e w7 ⟨rfl, hq7, o7⟩
  have HQ7 := Lib.hid hq7
  have HX7 := Lib.hid ((((Only.refl (· = w.heap.size + 1 + 1) w4).set 2 (.int .u64 0)).alloc _).trans o7)
  clear hq7 o7
  go_wp2_with (with_reducible refine stop_ldf ?_)
  refine Stop.out ?_
  refine wpList_loadF rfl rfl (effs (p.setOff 0) [.data]) (by exact H16.out) rfl HQ7.out ?_
  go_wp2_with (with_reducible refine stop_stf ?_)
  refine Stop.out ?_
  refine wpList_storeF rfl rfl (effs (p.setOff 0) [.data]) (fm0 0) (by exact H16.out) rfl rfl rfl (HX7.out.blk HR.out (by omega)) ?_
  intro w9 hb9 o9
  go_wp2_with (fail)
  refine bodyPost_ret (results_cell_row rfl _ _ _ _ _ _ _ rfl hb9 Try.underlying36 rfl (by rw [FM.size _ (by exact H16.out)]; exact fr_size)) rfl ?_
  refine ⟨⟨(effs (p.setOff 0) [.data]), ?_, rfl⟩, below_onto (below_onto bl4 HX7.out (by omega) (by intro z hz h; omega)) o9 (by have := HX7.out.size; omega) (by intro z hz h; omega)⟩
  have hk := HK.out
  obtain ⟨⟨k', _, _, _, _, _, _, _, _, _, _, _, _, _, _⟩, _, _, _, _, _, _⟩ := p
  obtain rfl : k' = 6 := hk
  rfl

set_option maxHeartbeats 4000000 in
set_option maxRecDepth 100000 in
theorem bare_7 (p : FM) (w : World) (h16 : p.f.tok.length = 16)  (hk : p.f.kind = 7) : Calls Try.prog 26 #[.agg p.vals] w fun e w' => (∃ q : FM, q.f = bareF p.f ∧ e = .returned (.agg q.vals)) ∧ Below w.heap.size w w' := by
  go_enter Try.func26, Try.ntmps26
  go_wp2_with (first | with_reducible refine stop_ldf ?_ | with_reducible refine stop_stf ?_)
  refine Stop.out ?_
  refine wpList_loadF rfl rfl p h16 rfl (Blk.alloc (Blk.new w p.vals 36) _) ?_
  go_wp2_with (first | with_reducible refine stop_ldf ?_ | with_reducible refine stop_stf ?_)
  refine Stop.out ?_
  refine wpList_storeF rfl rfl p (fm0 0) h16 rfl rfl rfl (fm0_at (by simp)) ?_
  intro w4 hb4 o4
  have z4 := o4.size
  simp only [World.size_alloc] at z4
  have hbox : FB w4 w.heap.size p := o4.blk (Blk.alloc (Blk.alloc (Blk.new w p.vals 36) _) _) (by omega)
  have hres : FB w4 (w.heap.size + 1) (fm0 0) := o4.blk (Blk.alloc (fm0_at (by simp)) _) (by omega)
  have bl4 : Below w.heap.size w w4 := below_onto ((((Below.refl _ _).alloc (Nat.le_refl _) _).alloc (by simp) _).alloc (by simp; omega) _) o4 (by simp; omega) (by intro z hz h; omega)
  have c0 := (hbox.fc h16).c0
  rw [hk] at c0
  have HO := hb4.fc h16
  have x1 := HO.c1
  have x2 := HO.c2
  have x5 := HO.c5
  have x6 := HO.c6
  have x8 := HO.c8
  have x25 := HO.c25
  have x26 := HO.c26
  have f1 := HO.free 1
  have f2 := HO.free 2
  have f5 := HO.free 5
  have f6 := HO.free 6
  have f8 := HO.free 8
  have f25 := HO.free 25
  have f26 := HO.free 26
  have HB4 := Lib.hid hb4
  have HR := Lib.hid hres
  have H16 := Lib.hid h16
  have HK := Lib.hid hk
  clear hb4 hres o4 HO hbox h16 hk
  go_wp2_with (fail)
  refine (drop_any w4.heap.size (w.heap.size + 1 + 1) [.data] p _ 1 (by decide) (blk_at (by simp) rfl) (Blk.alloc HB4.out _) (by omega)).mono ?_
  rintro e w7 ⟨rfl, hq7, o7⟩
  have HQ7 := Lib.hid hq7
  have HX7 := Lib.hid (((Only.refl (· = w.heap.size + 1 + 1) w4).alloc _).trans o7)
  clear hq7 o7
  go_wp2_with (with_reducible refine stop_ldf ?_)
  refine Stop.out ?_
  refine wpList_loadF rfl rfl (effs p [.data]) (by exact H16.out) rfl HQ7.out ?_
  go_wp2_with (with_reducible refine stop_stf ?_)
  refine Stop.out ?_
  refine wpList_storeF rfl rfl (effs p [.data]) (fm0 0) (by exact H16.out) rfl rfl rfl (HX7.out.blk HR.out (by omega)) ?_
  intro w9 hb9 o9
  go_wp2_with (fail)
  refine bodyPost_ret (results_cell_row rfl _ _ _ _ _ _ _ rfl hb9 Try.underlying36 rfl (by rw [FM.size _ (by exact H16.out)]; exact fr_size)) rfl ?_
  refine ⟨⟨(effs p [.data]), ?_, rfl⟩, below_onto (below_onto bl4 HX7.out (by omega) (by intro z hz h; omega)) o9 (by have := HX7.out.size; omega) (by intro z hz h; omega)⟩
  have hk := HK.out
  obtain ⟨⟨k', _, _, _, _, _, _, _, _, _, _, _, _, _, _⟩, _, _, _, _, _, _⟩ := p
  obtain rfl : k' = 7 := hk
  rfl

set_option maxHeartbeats 4000000 in
set_option maxRecDepth 100000 in
theorem bare_8 (p : FM) (w : World) (h16 : p.f.tok.length = 16)  (hk : p.f.kind = 8) : Calls Try.prog 26 #[.agg p.vals] w fun e w' => (∃ q : FM, q.f = bareF p.f ∧ e = .returned (.agg q.vals)) ∧ Below w.heap.size w w' := by
  go_enter Try.func26, Try.ntmps26
  go_wp2_with (first | with_reducible refine stop_ldf ?_ | with_reducible refine stop_stf ?_)
  refine Stop.out ?_
  refine wpList_loadF rfl rfl p h16 rfl (Blk.alloc (Blk.new w p.vals 36) _) ?_
  go_wp2_with (first | with_reducible refine stop_ldf ?_ | with_reducible refine stop_stf ?_)
  refine Stop.out ?_
  refine wpList_storeF rfl rfl p (fm0 0) h16 rfl rfl rfl (fm0_at (by simp)) ?_
  intro w4 hb4 o4
  have z4 := o4.size
  simp only [World.size_alloc] at z4
  have hbox : FB w4 w.heap.size p := o4.blk (Blk.alloc (Blk.alloc (Blk.new w p.vals 36) _) _) (by omega)
  have hres : FB w4 (w.heap.size + 1) (fm0 0) := o4.blk (Blk.alloc (fm0_at (by simp)) _) (by omega)
  have bl4 : Below w.heap.size w w4 := below_onto ((((Below.refl _ _).alloc (Nat.le_refl _) _).alloc (by simp) _).alloc (by simp; omega) _) o4 (by simp; omega) (by intro z hz h; omega)
  have c0 := (hbox.fc h16).c0
  rw [hk] at c0
  have HO := hb4.fc h16
  have x1 := HO.c1
  have x2 := HO.c2
  have x5 := HO.c5
  have x6 := HO.c6
  have x8 := HO.c8
  have x25 := HO.c25
  have x26 := HO.c26
  have f1 := HO.free 1
  have f2 := HO.free 2
  have f5 := HO.free 5
  have f6 := HO.free 6
  have f8 := HO.free 8
  have f25 := HO.free 25
  have f26 := HO.free 26
  have HB4 := Lib.hid hb4
  have HR := Lib.hid hres
  have H16 := Lib.hid h16
  have HK := Lib.hid hk
  clear hb4 hres o4 HO hbox h16 hk
  go_wp2_with (fail)
  refine (drop_any w4.heap.size (w.heap.size + 1 + 1) [.id, .data] ((p.setOff 0).setFin false) _ 1 (by decide) (blk_at (by simp) rfl) (Blk.alloc ((HB4.out.off 0).fin false) _) (by omega)).mono ?_
  rintro e w7 ⟨rfl, hq7, o7⟩
  have HQ7 := Lib.hid hq7
  have HX7 := Lib.hid (((((Only.refl (· = w.heap.size + 1 + 1) w4).set 2 (.int .u64 0)).set 6 (.bool false)).alloc _).trans o7)
  clear hq7 o7
  go_wp2_with (with_reducible refine stop_ldf ?_)
  refine Stop.out ?_
  refine wpList_loadF rfl rfl (effs ((p.setOff 0).setFin false) [.id, .data]) (by exact H16.out) rfl HQ7.out ?_
  go_wp2_with (with_reducible refine stop_stf ?_)
  refine Stop.out ?_
  refine wpList_storeF rfl rfl (effs ((p.setOff 0).setFin false) [.id, .data]) (fm0 0) (by exact H16.out) rfl rfl rfl (HX7.out.blk HR.out (by omega)) ?_
  intro w9 hb9 o9
  go_wp2_with (fail)
  refine bodyPost_ret (results_cell_row rfl _ _ _ _ _ _ _ rfl hb9 Try.underlying36 rfl (by rw [FM.size _ (by exact H16.out)]; exact fr_size)) rfl ?_
  refine ⟨⟨(effs ((p.setOff 0).setFin false) [.id, .data]), ?_, rfl⟩, below_onto (below_onto bl4 HX7.out (by omega) (by intro z hz h; omega)) o9 (by have := HX7.out.size; omega) (by intro z hz h; omega)⟩
  have hk := HK.out
  obtain ⟨⟨k', _, _, _, _, _, _, _, _, _, _, _, _, _, _⟩, _, _, _, _, _, _⟩ := p
  obtain rfl : k' = 8 := hk
  rfl

set_option maxHeartbeats 4000000 in
set_option maxRecDepth 100000 in
theorem bare_16 (p : FM) (w : World) (h16 : p.f.tok.length = 16)  (hk : p.f.kind = 16) : Calls Try.prog 26 #[.agg p.vals] w fun e w' => (∃ q : FM, q.f = bareF p.f ∧ e = .returned (.agg q.vals)) ∧ Below w.heap.size w w' := by
  go_enter Try.func26, Try.ntmps26
  go_wp2_with (first | with_reducible refine stop_ldf ?_ | with_reducible refine stop_stf ?_)
  refine Stop.out ?_
  refine wpList_loadF rfl rfl p h16 rfl (Blk.alloc (Blk.new w p.vals 36) _) ?_
  go_wp2_with (first | with_reducible refine stop_ldf ?_ | with_reducible refine stop_stf ?_)
  refine Stop.out ?_
  refine wpList_storeF rfl rfl p (fm0 0) h16 rfl rfl rfl (fm0_at (by simp)) ?_
  intro w4 hb4 o4
  have z4 := o4.size
  simp only [World.size_alloc] at z4
  have hbox : FB w4 w.heap.size p := o4.blk (Blk.alloc (Blk.alloc (Blk.new w p.vals 36) _) _) (by omega)
  have hres : FB w4 (w.heap.size + 1) (fm0 0) := o4.blk (Blk.alloc (fm0_at (by simp)) _) (by omega)
  have bl4 : Below w.heap.size w w4 := below_onto ((((Below.refl _ _).alloc (Nat.le_refl _) _).alloc (by simp) _).alloc (by simp; omega) _) o4 (by simp; omega) (by intro z hz h; omega)
  have c0 := (hbox.fc h16).c0
  rw [hk] at c0
  have HO := hb4.fc h16
  have x1 := HO.c1
  have x2 := HO.c2
  have x5 := HO.c5
  have x6 := HO.c6
  have x8 := HO.c8
  have x25 := HO.c25
  have x26 := HO.c26
  have f1 := HO.free 1
  have f2 := HO.free 2
  have f5 := HO.free 5
  have f6 := HO.free 6
  have f8 := HO.free 8
  have f25 := HO.free 25
  have f26 := HO.free 26
  have HB4 := Lib.hid hb4
  have HR := Lib.hid hres
  have H16 := Lib.hid h16
  have HK := Lib.hid hk
  clear hb4 hres o4 HO hbox h16 hk
  go_wp2_with (fail)
  refine (drop_any w4.heap.size (w.heap.size + 1 + 1) [.most] p _ 1 (by decide) (blk_at (by simp) rfl) (Blk.alloc HB4.out _) (by omega)).mono ?_
  rintro e w7 ⟨rfl, hq7, o7⟩
  have HQ7 := Lib.hid hq7
  have HX7 := Lib.hid (((Only.refl (· = w.heap.size + 1 + 1) w4).alloc _).trans o7)
  clear hq7 o7
  go_wp2_with (with_reducible refine stop_ldf ?_)
  refine Stop.out ?_
  refine wpList_loadF rfl rfl (effs p [.most]) (by exact H16.out) rfl HQ7.out ?_
  go_wp2_with (with_reducible refine stop_stf ?_)
  refine Stop.out ?_
  refine wpList_storeF rfl rfl (effs p [.most]) (fm0 0) (by exact H16.out) rfl rfl rfl (HX7.out.blk HR.out (by omega)) ?_
  intro w9 hb9 o9
  go_wp2_with (fail)
  refine bodyPost_ret (results_cell_row rfl _ _ _ _ _ _ _ rfl hb9 Try.underlying36 rfl (by rw [FM.size _ (by exact H16.out)]; exact fr_size)) rfl ?_
  refine ⟨⟨(effs p [.most]), ?_, rfl⟩, below_onto (below_onto bl4 HX7.out (by omega) (by intro z hz h; omega)) o9 (by have := HX7.out.size; omega) (by intro z hz h; omega)⟩
  have hk := HK.out
  obtain ⟨⟨k', _, _, _, _, _, _, _, _, _, _, _, _, _, _⟩, _, _, _, _, _, _⟩ := p
  obtain rfl : k' = 16 := hk
  rfl

set_option maxHeartbeats 4000000 in
set_option maxRecDepth 100000 in
theorem bare_17 (p : FM) (w : World) (h16 : p.f.tok.length = 16)  (hk : p.f.kind = 17) : Calls Try.prog 26 #[.agg p.vals] w fun e w' => (∃ q : FM, q.f = bareF p.f ∧ e = .returned (.agg q.vals)) ∧ Below w.heap.size w w' := by
  go_enter Try.func26, Try.ntmps26
  go_wp2_with (first | with_reducible refine stop_ldf ?_ | with_reducible refine stop_stf ?_)
  refine Stop.out ?_
  refine wpList_loadF rfl rfl p h16 rfl (Blk.alloc (Blk.new w p.vals 36) _) ?_
  go_wp2_with (first | with_reducible refine stop_ldf ?_ | with_reducible refine stop_stf ?_)
  refine Stop.out ?_
  refine wpList_storeF rfl rfl p (fm0 0) h16 rfl rfl rfl (fm0_at (by simp)) ?_
  intro w4 hb4 o4
  have z4 := o4.size
  simp only [World.size_alloc] at z4
  have hbox : FB w4 w.heap.size p := o4.blk (Blk.alloc (Blk.alloc (Blk.new w p.vals 36) _) _) (by omega)
  have hres : FB w4 (w.heap.size + 1) (fm0 0) := o4.blk (Blk.alloc (fm0_at (by simp)) _) (by omega)
  have bl4 : Below w.heap.size w w4 := below_onto ((((Below.refl _ _).alloc (Nat.le_refl _) _).alloc (by simp) _).alloc (by simp; omega) _) o4 (by simp; omega) (by intro z hz h; omega)
  have c0 := (hbox.fc h16).c0
  rw [hk] at c0
  have HO := hb4.fc h16
  have x1 := HO.c1
  have x2 := HO.c2
  have x5 := HO.c5
  have x6 := HO.c6
  have x8 := HO.c8
  have x25 := HO.c25
  have x26 := HO.c26
  have f1 := HO.free 1
  have f2 := HO.free 2
  have f5 := HO.free 5
  have f6 := HO.free 6
  have f8 := HO.free 8
  have f25 := HO.free 25
  have f26 := HO.free 26
  have HB4 := Lib.hid hb4
  have HR := Lib.hid hres
  have H16 := Lib.hid h16
  have HK := Lib.hid hk
  clear hb4 hres o4 HO hbox h16 hk
  go_wp2_with (fail)
  refine (drop_any w4.heap.size (w.heap.size + 1 + 1) [.id, .most] p _ 1 (by decide) (blk_at (by simp) rfl) (Blk.alloc HB4.out _) (by omega)).mono ?_
  rintro e w7 ⟨rfl, hq7, o7⟩
  have HQ7 := Lib.hid hq7
  have HX7 := Lib.hid (((Only.refl (· = w.heap.size + 1 + 1) w4).alloc _).trans o7)
  clear hq7 o7
  go_wp2_with (with_reducible refine stop_ldf ?_)
  refine Stop.out ?_
  refine wpList_loadF rfl rfl (effs p [.id, .most]) (by exact H16.out) rfl HQ7.out ?_
  go_wp2_with (with_reducible refine stop_stf ?_)
  refine Stop.out ?_
  refine wpList_storeF rfl rfl (effs p [.id, .most]) (fm0 0) (by exact H16.out) rfl rfl rfl (HX7.out.blk HR.out (by omega)) ?_
  intro w9 hb9 o9
  go_wp2_with (fail)
  refine bodyPost_ret (results_cell_row rfl _ _ _ _ _ _ _ rfl hb9 Try.underlying36 rfl (by rw [FM.size _ (by exact H16.out)]; exact fr_size)) rfl ?_
  refine ⟨⟨(effs p [.id, .most]), ?_, rfl⟩, below_onto (below_onto bl4 HX7.out (by omega) (by intro z hz h; omega)) o9 (by have := HX7.out.size; omega) (by intro z hz h; omega)⟩
  have hk := HK.out
  obtain ⟨⟨k', _, _, _, _, _, _, _, _, _, _, _, _, _, _⟩, _, _, _, _, _, _⟩ := p
  obtain rfl : k' = 17 := hk
  rfl

set_option maxHeartbeats 4000000 in
set_option maxRecDepth 100000 in
theorem bare_18 (p : FM) (w : World) (h16 : p.f.tok.length = 16)  (hk : p.f.kind = 18) : Calls Try.prog 26 #[.agg p.vals] w fun e w' => (∃ q : FM, q.f = bareF p.f ∧ e = .returned (.agg q.vals)) ∧ Below w.heap.size w w' := by
  go_enter Try.func26, Try.ntmps26
  go_wp2_with (first | with_reducible refine stop_ldf ?_ | with_reducible refine stop_stf ?_)
  refine Stop.out ?_
  refine wpList_loadF rfl rfl p h16 rfl (Blk.alloc (Blk.new w p.vals 36) _) ?_
  go_wp2_with (first | with_reducible refine stop_ldf ?_ | with_reducible refine stop_stf ?_)
  refine Stop.out ?_
  refine wpList_storeF rfl rfl p (fm0 0) h16 rfl rfl rfl (fm0_at (by simp)) ?_
  intro w4 hb4 o4
  have z4 := o4.size
  simp only [World.size_alloc] at z4
  have hbox : FB w4 w.heap.size p := o4.blk (Blk.alloc (Blk.alloc (Blk.new w p.vals 36) _) _) (by omega)
  have hres : FB w4 (w.heap.size + 1) (fm0 0) := o4.blk (Blk.alloc (fm0_at (by simp)) _) (by omega)
  have bl4 : Below w.heap.size w w4 := below_onto ((((Below.refl _ _).alloc (Nat.le_refl _) _).alloc (by simp) _).alloc (by simp; omega) _) o4 (by simp; omega) (by intro z hz h; omega)
  have c0 := (hbox.fc h16).c0
  rw [hk] at c0
  have HO := hb4.fc h16
  have x1 := HO.c1
  have x2 := HO.c2
  have x5 := HO.c5
  have x6 := HO.c6
  have x8 := HO.c8
  have x25 := HO.c25
  have x26 := HO.c26
  have f1 := HO.free 1
  have f2 := HO.free 2
  have f5 := HO.free 5
  have f6 := HO.free 6
  have f8 := HO.free 8
  have f25 := HO.free 25
  have f26 := HO.free 26
  have HB4 := Lib.hid hb4
  have HR := Lib.hid hres
  have H16 := Lib.hid h16
  have HK := Lib.hid hk
  clear hb4 hres o4 HO hbox h16 hk
  go_wp2_with (fail)
  refine (drop_any w4.heap.size (w.heap.size + 1 + 1) [.most] p _ 1 (by decide) (blk_at (by simp) rfl) (Blk.alloc HB4.out _) (by omega)).mono ?_
  rintro e w7 ⟨rfl, hq7, o7⟩
  have HQ7 := Lib.hid hq7
  have HX7 := Lib.hid (((Only.refl (· = w.heap.size + 1 + 1) w4).alloc _).trans o7)
  clear hq7 o7
  go_wp2_with (with_reducible refine stop_ldf ?_)
  refine Stop.out ?_
  refine wpList_loadF rfl rfl (effs p [.most]) (by exact H16.out) rfl HQ7.out ?_
  go_wp2_with (with_reducible refine stop_stf ?_)
  refine Stop.out ?_
  refine wpList_storeF rfl rfl (effs p [.most]) (fm0 0) (by exact H16.out) rfl rfl rfl (HX7.out.blk HR.out (by omega)) ?_
  intro w9 hb9 o9
  go_wp2_with (fail)
  refine bodyPost_ret (results_cell_row rfl _ _ _ _ _ _ _ rfl hb9 Try.underlying36 rfl (by rw [FM.size _ (by exact H16.out)]; exact fr_size)) rfl ?_
  refine ⟨⟨(effs p [.most]), ?_, rfl⟩, below_onto (below_onto bl4 HX7.out (by omega) (by intro z hz h; omega)) o9 (by have := HX7.out.size; omega) (by intro z hz h; omega)⟩
  have hk := HK.out
  obtain ⟨⟨k', _, _, _, _, _, _, _, _, _, _, _, _, _, _⟩, _, _, _, _, _, _⟩ := p
  obtain rfl : k' = 18 := hk
  rfl

set_option maxHeartbeats 4000000 in
set_option maxRecDepth 100000 in
theorem bare_19 (p : FM) (w : World) (h16 : p.f.tok.length = 16)  (hk : p.f.kind = 19) : Calls Try.prog 26 #[.agg p.vals] w fun e w' => (∃ q : FM, q.f = bareF p.f ∧ e = .returned (.agg q.vals)) ∧ Below w.heap.size w w' := by
  go_enter Try.func26, Try.ntmps26
  go_wp2_with (first | with_reducible refine stop_ldf ?_ | with_reducible refine stop_stf ?_)
  refine Stop.out ?_
  refine wpList_loadF rfl rfl p h16 rfl (Blk.alloc (Blk.new w p.vals 36) _) ?_
  go_wp2_with (first | with_reducible refine stop_ldf ?_ | with_reducible refine stop_stf ?_)
  refine Stop.out ?_
  refine wpList_storeF rfl rfl p (fm0 0) h16 rfl rfl rfl (fm0_at (by simp)) ?_
  intro w4 hb4 o4
  have z4 := o4.size
  simp only [World.size_alloc] at z4
  have hbox : FB w4 w.heap.size p := o4.blk (Blk.alloc (Blk.alloc (Blk.new w p.vals 36) _) _) (by omega)
  have hres : FB w4 (w.heap.size + 1) (fm0 0) := o4.blk (Blk.alloc (fm0_at (by simp)) _) (by omega)
  have bl4 : Below w.heap.size w w4 := below_onto ((((Below.refl _ _).alloc (Nat.le_refl _) _).alloc (by simp) _).alloc (by simp; omega) _) o4 (by simp; omega) (by intro z hz h; omega)
  have c0 := (hbox.fc h16).c0
  rw [hk] at c0
  have HO := hb4.fc h16
  have x1 := HO.c1
  have x2 := HO.c2
  have x5 := HO.c5
  have x6 := HO.c6
  have x8 := HO.c8
  have x25 := HO.c25
  have x26 := HO.c26
  have f1 := HO.free 1
  have f2 := HO.free 2
  have f5 := HO.free 5
  have f6 := HO.free 6
  have f8 := HO.free 8
  have f25 := HO.free 25
  have f26 := HO.free 26
  have HB4 := Lib.hid hb4
  have HR := Lib.hid hres
  have H16 := Lib.hid h16
  have HK := Lib.hid hk
  clear hb4 hres o4 HO hbox h16 hk
  go_wp2_with (fail)
  refine (drop_any w4.heap.size (w.heap.size + 1 + 1) [.most] p _ 1 (by decide) (blk_at (by simp) rfl) (Blk.alloc HB4.out _) (by omega)).mono ?_
  rintro e w7 ⟨rfl, hq7, o7⟩
  have HQ7 := Lib.hid hq7
  have HX7 := Lib.hid (((Only.refl (· = w.heap.size + 1 + 1) w4).alloc _).trans o7)
  clear hq7 o7
  go_wp2_with (with_reducible refine stop_ldf ?_)
  refine Stop.out ?_
  refine wpList_loadF rfl rfl (effs p [.most]) (by exact H16.out) rfl HQ7.out ?_
  go_wp2_with (with_reducible refine stop_stf ?_)
  refine Stop.out ?_
  refine wpList_storeF rfl rfl (effs p [.most]) (fm0 0) (by exact H16.out) rfl rfl rfl (HX7.out.blk HR.out (by omega)) ?_
  intro w9 hb9 o9
  go_wp2_with (fail)
  refine bodyPost_ret (results_cell_row rfl _ _ _ _ _ _ _ rfl hb9 Try.underlying36 rfl (by rw [FM.size _ (by exact H16.out)]; exact fr_size)) rfl ?_
  refine ⟨⟨(effs p [.most]), ?_, rfl⟩, below_onto (below_onto bl4 HX7.out (by omega) (by intro z hz h; omega)) o9 (by have := HX7.out.size; omega) (by intro z hz h; omega)⟩
  have hk := HK.out
  obtain ⟨⟨k', _, _, _, _, _, _, _, _, _, _, _, _, _, _⟩, _, _, _, _, _, _⟩ := p
  obtain rfl : k' = 19 := hk
  rfl

set_option maxHeartbeats 4000000 in
set_option maxRecDepth 100000 in
theorem bare_20 (p : FM) (w : World) (h16 : p.f.tok.length = 16)  (hk : p.f.kind = 20) : Calls Try.prog 26 #[.agg p.vals] w fun e w' => (∃ q : FM, q.f = bareF p.f ∧ e = .returned (.agg q.vals)) ∧ Below w.heap.size w w' := by
  go_enter Try.func26, Try.ntmps26
  go_wp2_with (first | with_reducible refine stop_ldf ?_ | with_reducible refine stop_stf ?_)
  refine Stop.out ?_
  refine wpList_loadF rfl rfl p h16 rfl (Blk.alloc (Blk.new w p.vals 36) _) ?_
  go_wp2_with (first | with_reducible refine stop_ldf ?_ | with_reducible refine stop_stf ?_)
  refine Stop.out ?_
  refine wpList_storeF rfl rfl p (fm0 0) h16 rfl rfl rfl (fm0_at (by simp)) ?_
  intro w4 hb4 o4
  have z4 := o4.size
  simp only [World.size_alloc] at z4
  have hbox : FB w4 w.heap.size p := o4.blk (Blk.alloc (Blk.alloc (Blk.new w p.vals 36) _) _) (by omega)
  have hres : FB w4 (w.heap.size + 1) (fm0 0) := o4.blk (Blk.alloc (fm0_at (by simp)) _) (by omega)
  have bl4 : Below w.heap.size w w4 := below_onto ((((Below.refl _ _).alloc (Nat.le_refl _) _).alloc (by simp) _).alloc (by simp; omega) _) o4 (by simp; omega) (by intro z hz h; omega)
  have c0 := (hbox.fc h16).c0
  rw [hk] at c0
  have HO := hb4.fc h16
  have x1 := HO.c1
  have x2 := HO.c2
  have x5 := HO.c5
  have x6 := HO.c6
  have x8 := HO.c8
  have x25 := HO.c25
  have x26 := HO.c26
  have f1 := HO.free 1
  have f2 := HO.free 2
  have f5 := HO.free 5
  have f6 := HO.free 6
  have f8 := HO.free 8
  have f25 := HO.free 25
  have f26 := HO.free 26
  have HB4 := Lib.hid hb4
  have HR := Lib.hid hres
  have H16 := Lib.hid h16
  have HK := Lib.hid hk
  clear hb4 hres o4 HO hbox h16 hk
  go_wp2_with (fail)
  refine (drop_any w4.heap.size (w.heap.size + 1 + 1) [.most] p _ 1 (by decide) (blk_at (by simp) rfl) (Blk.alloc HB4.out _) (by omega)).mono ?_
  rintro e w7 ⟨rfl, hq7, o7⟩
  have HQ7 := Lib.hid hq7
  have HX7 := Lib.hid (((Only.refl (· = w.heap.size + 1 + 1) w4).alloc _).trans o7)
  clear hq7 o7
  go_wp2_with (with_reducible refine stop_ldf ?_)
  refine Stop.out ?_
  refine wpList_loadF rfl rfl (effs p [.most]) (by exact H16.out) rfl HQ7.out ?_
  go_wp2_with (with_reducible refine stop_stf ?_)
  refine Stop.out ?_
  refine wpList_storeF rfl rfl (effs p [.most]) (fm0 0) (by exact H16.out) rfl rfl rfl (HX7.out.blk HR.out (by omega)) ?_
  intro w9 hb9 o9
  go_wp2_with (fail)
  refine bodyPost_ret (results_cell_row rfl _ _ _ _ _ _ _ rfl hb9 Try.underlying36 rfl (by rw [FM.size _ (by exact H16.out)]; exact fr_size)) rfl ?_
  refine ⟨⟨(effs p [.most]), ?_, rfl⟩, below_onto (below_onto bl4 HX7.out (by omega) (by intro z hz h; omega)) o9 (by have := HX7.out.size; omega) (by intro z hz h; omega)⟩
  have hk := HK.out
  obtain ⟨⟨k', _, _, _, _, _, _, _, _, _, _, _, _, _, _⟩, _, _, _, _, _, _⟩ := p
  obtain rfl : k' = 20 := hk
  rfl

set_option maxHeartbeats 4000000 in
set_option maxRecDepth 100000 in
theorem bare_21 (p : FM) (w : World) (h16 : p.f.tok.length = 16)  (hk : p.f.kind = 21) : Calls Try.prog 26 #[.agg p.vals] w fun e w' => (∃ q : FM, q.f = bareF p.f ∧ e = .returned (.agg q.vals)) ∧ Below w.heap.size w w' := by
  go_enter Try.func26, Try.ntmps26
  go_wp2_with (first | with_reducible refine stop_ldf ?_ | with_reducible refine stop_stf ?_)
  refine Stop.out ?_
  refine wpList_loadF rfl rfl p h16 rfl (Blk.alloc (Blk.new w p.vals 36) _) ?_
  go_wp2_with (first | with_reducible refine stop_ldf ?_ | with_reducible refine stop_stf ?_)
  refine Stop.out ?_
  refine wpList_storeF rfl rfl p (fm0 0) h16 rfl rfl rfl (fm0_at (by simp)) ?_
  intro w4 hb4 o4
  have z4 := o4.size
  simp only [World.size_alloc] at z4
  have hbox : FB w4 w.heap.size p := o4.blk (Blk.alloc (Blk.alloc (Blk.new w p.vals 36) _) _) (by omega)
  have hres : FB w4 (w.heap.size + 1) (fm0 0) := o4.blk (Blk.alloc (fm0_at (by simp)) _) (by omega)
  have bl4 : Below w.heap.size w w4 := below_onto ((((Below.refl _ _).alloc (Nat.le_refl _) _).alloc (by simp) _).alloc (by simp; omega) _) o4 (by simp; omega) (by intro z hz h; omega)
  have c0 := (hbox.fc h16).c0
  rw [hk] at c0
  have HO := hb4.fc h16
  have x1 := HO.c1
  have x2 := HO.c2
  have x5 := HO.c5
  have x6 := HO.c6
  have x8 := HO.c8
  have x25 := HO.c25
  have x26 := HO.c26
  have f1 := HO.free 1
  have f2 := HO.free 2
  have f5 := HO.free 5
  have f6 := HO.free 6
  have f8 := HO.free 8
  have f25 := HO.free 25
  have f26 := HO.free 26
  have HB4 := Lib.hid hb4
  have HR := Lib.hid hres
  have H16 := Lib.hid h16
  have HK := Lib.hid hk
  clear hb4 hres o4 HO hbox h16 hk
  go_wp2_with (fail)
  refine (drop_any w4.heap.size (w.heap.size + 1 + 1) [.id, .most] p _ 1 (by decide) (blk_at (by simp) rfl) (Blk.alloc HB4.out _) (by omega)).mono ?_
  rintro e w7 ⟨rfl, hq7, o7⟩
  have HQ7 := Lib.hid hq7
  have HX7 := Lib.hid (((Only.refl (· = w.heap.size + 1 + 1) w4).alloc _).trans o7)
  clear hq7 o7
  go_wp2_with (with_reducible refine stop_ldf ?_)
  refine Stop.out ?_
  refine wpList_loadF rfl rfl (effs p [.id, .most]) (by exact H16.out) rfl HQ7.out ?_
  go_wp2_with (with_reducible refine stop_stf ?_)
  refine Stop.out ?_
  refine wpList_storeF rfl rfl (effs p [.id, .most]) (fm0 0) (by exact H16.out) rfl rfl rfl (HX7.out.blk HR.out (by omega)) ?_
  intro w9 hb9 o9
  go_wp2_with (fail)
  refine bodyPost_ret (results_cell_row rfl _ _ _ _ _ _ _ rfl hb9 Try.underlying36 rfl (by rw [FM.size _ (by exact H16.out)]; exact fr_size)) rfl ?_
  refine ⟨⟨(effs p [.id, .most]), ?_, rfl⟩, below_onto (below_onto bl4 HX7.out (by omega) (by intro z hz h; omega)) o9 (by have := HX7.out.size; omega) (by intro z hz h; omega)⟩
  have hk := HK.out
  obtain ⟨⟨k', _, _, _, _, _, _, _, _, _, _, _, _, _, _⟩, _, _, _, _, _, _⟩ := p
  obtain rfl : k' = 21 := hk
  rfl

set_option maxHeartbeats 4000000 in
set_option maxRecDepth 100000 in
theorem bare_22 (p : FM) (w : World) (h16 : p.f.tok.length = 16)  (hk : p.f.kind = 22) : Calls Try.prog 26 #[.agg p.vals] w fun e w' => (∃ q : FM, q.f = bareF p.f ∧ e = .returned (.agg q.vals)) ∧ Below w.heap.size w w' := by
  go_enter Try.func26, Try.ntmps26
  go_wp2_with (first | with_reducible refine stop_ldf ?_ | with_reducible refine stop_stf ?_)
  refine Stop.out ?_
  refine wpList_loadF rfl rfl p h16 rfl (Blk.alloc (Blk.new w p.vals 36) _) ?_
  go_wp2_with (first | with_reducible refine stop_ldf ?_ | with_reducible refine stop_stf ?_)
  refine Stop.out ?_
  refine wpList_storeF rfl rfl p (fm0 0) h16 rfl rfl rfl (fm0_at (by simp)) ?_
  intro w4 hb4 o4
  have z4 := o4.size
  simp only [World.size_alloc] at z4
  have hbox : FB w4 w.heap.size p := o4.blk (Blk.alloc (Blk.alloc (Blk.new w p.vals 36) _) _) (by omega)
  have hres : FB w4 (w.heap.size + 1) (fm0 0) := o4.blk (Blk.alloc (fm0_at (by simp)) _) (by omega)
  have bl4 : Below w.heap.size w w4 := below_onto ((((Below.refl _ _).alloc (Nat.le_refl _) _).alloc (by simp) _).alloc (by simp; omega) _) o4 (by simp; omega) (by intro z hz h; omega)
  have c0 := (hbox.fc h16).c0
  rw [hk] at c0
  have HO := hb4.fc h16
  have x1 := HO.c1
  have x2 := HO.c2
  have x5 := HO.c5
  have x6 := HO.c6
  have x8 := HO.c8
  have x25 := HO.c25
  have x26 := HO.c26
  have f1 := HO.free 1
  have f2 := HO.free 2
  have f5 := HO.free 5
  have f6 := HO.free 6
  have f8 := HO.free 8
  have f25 := HO.free 25
  have f26 := HO.free 26
  have HB4 := Lib.hid hb4
  have HR := Lib.hid hres
  have H16 := Lib.hid h16
  have HK := Lib.hid hk
  clear hb4 hres o4 HO hbox h16 hk
  go_wp2_with (fail)
  refine (drop_any w4.heap.size (w.heap.size + 1 + 1) [.most] p _ 1 (by decide) (blk_at (by simp) rfl) (Blk.alloc HB4.out _) (by omega)).mono ?_
  rintro e w7 ⟨rfl, hq7, o7⟩
  have HQ7 := Lib.hid hq7
  have HX7 := Lib.hid (((Only.refl (· = w.heap.size + 1 + 1) w4).alloc _).trans o7)
  clear hq7 o7
  go_wp2_with (with_reducible refine stop_ldf ?_)
  refine Stop.out ?_
  refine wpList_loadF rfl rfl (effs p [.most]) (by exact H16.out) rfl HQ7.out ?_
  go_wp2_with (with_reducible refine stop_stf ?_)
  refine Stop.out ?_
  refine wpList_storeF rfl rfl (effs p [.most]) (fm0 0) (by exact H16.out) rfl rfl rfl (HX7.out.blk HR.out (by omega)) ?_
  intro w9 hb9 o9
  go_wp2_with (fail)
  refine bodyPost_ret (results_cell_row rfl _ _ _ _ _ _ _ rfl hb9 Try.underlying36 rfl (by rw [FM.size _ (by exact H16.out)]; exact fr_size)) rfl ?_
  refine ⟨⟨(effs p [.most]), ?_, rfl⟩, below_onto (below_onto bl4 HX7.out (by omega) (by intro z hz h; omega)) o9 (by have := HX7.out.size; omega) (by intro z hz h; omega)⟩
  have hk := HK.out
  obtain ⟨⟨k', _, _, _, _, _, _, _, _, _, _, _, _, _, _⟩, _, _, _, _, _, _⟩ := p
  obtain rfl : k' = 22 := hk
  rfl

set_option maxHeartbeats 4000000 in
set_option maxRecDepth 100000 in
theorem bare_23 (p : FM) (w : World) (h16 : p.f.tok.length = 16)  (hk : p.f.kind = 23) : Calls Try.prog 26 #[.agg p.vals] w fun e w' => (∃ q : FM, q.f = bareF p.f ∧ e = .returned (.agg q.vals)) ∧ Below w.heap.size w w' := by
  go_enter Try.func26, Try.ntmps26
  go_wp2_with (first | with_reducible refine stop_ldf ?_ | with_reducible refine stop_stf ?_)
  refine Stop.out ?_
  refine wpList_loadF rfl rfl p h16 rfl (Blk.alloc (Blk.new w p.vals 36) _) ?_
  go_wp2_with (first | with_reducible refine stop_ldf ?_ | with_reducible refine stop_stf ?_)
  refine Stop.out ?_
  refine wpList_storeF rfl rfl p (fm0 0) h16 rfl rfl rfl (fm0_at (by simp)) ?_
  intro w4 hb4 o4
  have z4 := o4.size
  simp only [World.size_alloc] at z4
  have hbox : FB w4 w.heap.size p := o4.blk (Blk.alloc (Blk.alloc (Blk.new w p.vals 36) _) _) (by omega)
  have hres : FB w4 (w.heap.size + 1) (fm0 0) := o4.blk (Blk.alloc (fm0_at (by simp)) _) (by omega)
  have bl4 : Below w.heap.size w w4 := below_onto ((((Below.refl _ _).alloc (Nat.le_refl _) _).alloc (by simp) _).alloc (by simp; omega) _) o4 (by simp; omega) (by intro z hz h; omega)
  have c0 := (hbox.fc h16).c0
  rw [hk] at c0
  have HO := hb4.fc h16
  have x1 := HO.c1
  have x2 := HO.c2
  have x5 := HO.c5
  have x6 := HO.c6
  have x8 := HO.c8
  have x25 := HO.c25
  have x26 := HO.c26
  have f1 := HO.free 1
  have f2 := HO.free 2
  have f5 := HO.free 5
  have f6 := HO.free 6
  have f8 := HO.free 8
  have f25 := HO.free 25
  have f26 := HO.free 26
  have HB4 := Lib.hid hb4
  have HR := Lib.hid hres
  have H16 := Lib.hid h16
  have HK := Lib.hid hk
  clear hb4 hres o4 HO hbox h16 hk
  go_wp2_with (fail)
  refine (drop_any w4.heap.size (w.heap.size + 1 + 1) [.most] p _ 1 (by decide) (blk_at (by simp) rfl) (Blk.alloc HB4.out _) (by omega)).mono ?_
  rintro e w7 ⟨rfl, hq7, o7⟩
  have HQ7 := Lib.hid hq7
  have HX7 := Lib.hid (((Only.refl (· = w.heap.size + 1 + 1) w4).alloc _).trans o7)
  clear hq7 o7
  go_wp2_with (with_reducible refine stop_ldf ?_)
  refine Stop.out ?_
  refine wpList_loadF rfl rfl (effs p [.most]) (by exact H16.out) rfl HQ7.out ?_
  go_wp2_with (with_reducible refine stop_stf ?_)
  refine Stop.out ?_
  refine wpList_storeF rfl rfl (effs p [.most]) (fm0 0) (by exact H16.out) rfl rfl rfl (HX7.out.blk HR.out (by omega)) ?_
  intro w9 hb9 o9
  go_wp2_with (fail)
  refine bodyPost_ret (results_cell_row rfl _ _ _ _ _ _ _ rfl hb9 Try.underlying36 rfl (by rw [FM.size _ (by exact H16.out)]; exact fr_size)) rfl ?_
  refine ⟨⟨(effs p [.most]), ?_, rfl⟩, below_onto (below_onto bl4 HX7.out (by omega) (by intro z hz h; omega)) o9 (by have := HX7.out.size; omega) (by intro z hz h; omega)⟩
  have hk := HK.out
  obtain ⟨⟨k', _, _, _, _, _, _, _, _, _, _, _, _, _, _⟩, _, _, _, _, _, _⟩ := p
  obtain rfl : k' = 23 := hk
  rfl

set_option maxHeartbeats 4000000 in
set_option maxRecDepth 100000 in
theorem bare_24 (p : FM) (w : World) (h16 : p.f.tok.length = 16)  (hk : p.f.kind = 24) : Calls Try.prog 26 #[.agg p.vals] w fun e w' => (∃ q : FM, q.f = bareF p.f ∧ e = .returned (.agg q.vals)) ∧ Below w.heap.size w w' := by
  go_enter Try.func26, Try.ntmps26
  go_wp2_with (first | with_reducible refine stop_ldf ?_ | with_reducible refine stop_stf ?_)
  refine Stop.out ?_
  refine wpList_loadF rfl rfl p h16 rfl (Blk.alloc (Blk.new w p.vals 36) _) ?_
  go_wp2_with (first | with_reducible refine stop_ldf ?_ | with_reducible refine stop_stf ?_)
  refine Stop.out ?_
  refine wpList_storeF rfl rfl p (fm0 0) h16 rfl rfl rfl (fm0_at (by simp)) ?_
  intro w4 hb4 o4
  have z4 := o4.size
  simp only [World.size_alloc] at z4
  have hbox : FB w4 w.heap.size p := o4.blk (Blk.alloc (Blk.alloc (Blk.new w p.vals 36) _) _) (by omega)
  have hres : FB w4 (w.heap.size + 1) (fm0 0) := o4.blk (Blk.alloc (fm0_at (by simp)) _) (by omega)
  have bl4 : Below w.heap.size w w4 := below_onto ((((Below.refl _ _).alloc (Nat.le_refl _) _).alloc (by simp) _).alloc (by simp; omega) _) o4 (by simp; omega) (by intro z hz h; omega)
  have c0 := (hbox.fc h16).c0
  rw [hk] at c0
  have HO := hb4.fc h16
  have x1 := HO.c1
  have x2 := HO.c2
  have x5 := HO.c5
  have x6 := HO.c6
  have x8 := HO.c8
  have x25 := HO.c25
  have x26 := HO.c26
  have f1 := HO.free 1
  have f2 := HO.free 2
  have f5 := HO.free 5
  have f6 := HO.free 6
  have f8 := HO.free 8
  have f25 := HO.free 25
  have f26 := HO.free 26
  have HB4 := Lib.hid hb4
  have HR := Lib.hid hres
  have H16 := Lib.hid h16
  have HK := Lib.hid hk
  clear hb4 hres o4 HO hbox h16 hk
  go_wp2_with (with_reducible refine stop_stt ?_)
  refine Stop.out ?_
  refine wpList_storePart rfl rfl (p.setCid none 0 []).list (tok0.map (Value.int .u8)) rfl rfl (HB4.out.cid none 0 []) tok_size (by rw [FM.length _ (by exact H16.out)]; decide) (by simp [Value.oneCell']) ?_
  intro w6 hb6 o6
  have HQ := Lib.hid (FB.stTok (p := p.setCid none 0 []) (by exact H16.out) tok0 rfl hb6)
  have HX := Lib.hid (((Only.refl (· = w.heap.size + 1 + 1) w4).set 8 (.slice none 0 0)).trans o6)
  have z6 := o6.size
  simp only [World.size_setCell] at z6
  clear hb6 o6
  go_wp2_with (fail)
  refine (drop_any w6.heap.size (w.heap.size + 1 + 1) [.id, .most] ((p.setCid none 0 []).setTok tok0) _ 1 (by decide) (blk_at (by simp) rfl) (Blk.alloc HQ.out _) (by omega)).mono ?_
  rintro e w7 ⟨rfl, hq7, o7⟩
  have HQ7 := Lib.hid hq7
  have HX7 := Lib.hid ((HX.out.alloc _).trans o7)
  clear hq7 o7
  go_wp2_with (with_reducible refine stop_ldf ?_)
  refine Stop.out ?_
  refine wpList_loadF rfl rfl (effs ((p.setCid none 0 []).setTok tok0) [.id, .most]) (rfl) rfl HQ7.out ?_
  go_wp2_with (with_reducible refine stop_stf ?_)
  refine Stop.out ?_
  refine wpList_storeF rfl rfl (effs ((p.setCid none 0 []).setTok tok0) [.id, .most]) (fm0 0) (rfl) rfl rfl rfl (HX7.out.blk HR.out (by omega)) ?_
  intro w9 hb9 o9
  go_wp2_with (fail)
  refine bodyPost_ret (results_cell_row rfl _ _ _ _ _ _ _ rfl hb9 Try.underlying36 rfl (by rw [FM.size _ (rfl)]; exact fr_size)) rfl ?_
  refine ⟨⟨(effs ((p.setCid none 0 []).setTok tok0) [.id, .most]), ?_, rfl⟩, below_onto (below_onto bl4 HX7.out (by omega) (by intro z hz h; omega)) o9 (by have := HX7.out.size; omega) (by intro z hz h; omega)⟩
  have hk := HK.out
  obtain ⟨⟨k', _, _, _, _, _, _, _, _, _, _, _, _, _, _⟩, _, _, _, _, _, _⟩ := p
  obtain rfl : k' = 24 := hk
  rfl

set_option maxHeartbeats 4000000 in
set_option maxRecDepth 100000 in
theorem bare_25 (p : FM) (w : World) (h16 : p.f.tok.length = 16)  (hk : p.f.kind = 25) : Calls Try.prog 26 #[.agg p.vals] w fun e w' => (∃ q : FM, q.f = bareF p.f ∧ e = .returned (.agg q.vals)) ∧ Below w.heap.size w w' := by
  go_enter Try.func26, Try.ntmps26
  go_wp2_with (first | with_reducible refine stop_ldf ?_ | with_reducible refine stop_stf ?_)
  refine Stop.out ?_
  refine wpList_loadF rfl rfl p h16 rfl (Blk.alloc (Blk.new w p.vals 36) _) ?_
  go_wp2_with (first | with_reducible refine stop_ldf ?_ | with_reducible refine stop_stf ?_)
  refine Stop.out ?_
  refine wpList_storeF rfl rfl p (fm0 0) h16 rfl rfl rfl (fm0_at (by simp)) ?_
  intro w4 hb4 o4
  have z4 := o4.size
  simp only [World.size_alloc] at z4
  have hbox : FB w4 w.heap.size p := o4.blk (Blk.alloc (Blk.alloc (Blk.new w p.vals 36) _) _) (by omega)
  have hres : FB w4 (w.heap.size + 1) (fm0 0) := o4.blk (Blk.alloc (fm0_at (by simp)) _) (by omega)
  have bl4 : Below w.heap.size w w4 := below_onto ((((Below.refl _ _).alloc (Nat.le_refl _) _).alloc (by simp) _).alloc (by simp; omega) _) o4 (by simp; omega) (by intro z hz h; omega)
  have c0 := (hbox.fc h16).c0
  rw [hk] at c0
  have HO := hb4.fc h16
  have x1 := HO.c1
  have x2 := HO.c2
  have x5 := HO.c5
  have x6 := HO.c6
  have x8 := HO.c8
  have x25 := HO.c25
  have x26 := HO.c26
  have f1 := HO.free 1
  have f2 := HO.free 2
  have f5 := HO.free 5
  have f6 := HO.free 6
  have f8 := HO.free 8
  have f25 := HO.free 25
  have f26 := HO.free 26
  have HB4 := Lib.hid hb4
  have HR := Lib.hid hres
  have H16 := Lib.hid h16
  have HK := Lib.hid hk
  clear hb4 hres o4 HO hbox h16 hk
  go_wp2_with (fail)
  refine (drop_any w4.heap.size (w.heap.size + 1 + 1) [.id] p _ 1 (by decide) (blk_at (by simp) rfl) (Blk.alloc HB4.out _) (by omega)).mono ?_
  rintro e w7 ⟨rfl, hq7, o7⟩
  have HQ7 := Lib.hid hq7
  have HX7 := Lib.hid (((Only.refl (· = w.heap.size + 1 + 1) w4).alloc _).trans o7)
  clear hq7 o7
  go_wp2_with (with_reducible refine stop_ldf ?_)
  refine Stop.out ?_
  refine wpList_loadF rfl rfl (effs p [.id]) (by exact H16.out) rfl HQ7.out ?_
  go_wp2_with (with_reducible refine stop_stf ?_)
  refine Stop.out ?_
  refine wpList_storeF rfl rfl (effs p [.id]) (fm0 0) (by exact H16.out) rfl rfl rfl (HX7.out.blk HR.out (by omega)) ?_
  intro w9 hb9 o9
  go_wp2_with (fail)
  refine bodyPost_ret (results_cell_row rfl _ _ _ _ _ _ _ rfl hb9 Try.underlying36 rfl (by rw [FM.size _ (by exact H16.out)]; exact fr_size)) rfl ?_
  refine ⟨⟨(effs p [.id]), ?_, rfl⟩, below_onto (below_onto bl4 HX7.out (by omega) (by intro z hz h; omega)) o9 (by have := HX7.out.size; omega) (by intro z hz h; omega)⟩
  have hk := HK.out
  obtain ⟨⟨k', _, _, _, _, _, _, _, _, _, _, _, _, _, _⟩, _, _, _, _, _, _⟩ := p
  obtain rfl : k' = 25 := hk
  rfl

set_option maxHeartbeats 4000000 in
set_option maxRecDepth 100000 in
theorem bare_26 (p : FM) (w : World) (h16 : p.f.tok.length = 16)  (hk : p.f.kind = 26) : Calls Try.prog 26 #[.agg p.vals] w fun e w' => (∃ q : FM, q.f = bareF p.f ∧ e = .returned (.agg q.vals)) ∧ Below w.heap.size w w' := by
  go_enter Try.func26, Try.ntmps26
  go_wp2_with (first | with_reducible refine stop_ldf ?_ | with_reducible refine stop_stf ?_)
  refine Stop.out ?_
  refine wpList_loadF rfl rfl p h16 rfl (Blk.alloc (Blk.new w p.vals 36) _) ?_
  go_wp2_with (first | with_reducible refine stop_ldf ?_ | with_reducible refine stop_stf ?_)
  refine Stop.out ?_
  refine wpList_storeF rfl rfl p (fm0 0) h16 rfl rfl rfl (fm0_at (by simp)) ?_
  intro w4 hb4 o4
  have z4 := o4.size
  simp only [World.size_alloc] at z4
  have hbox : FB w4 w.heap.size p := o4.blk (Blk.alloc (Blk.alloc (Blk.new w p.vals 36) _) _) (by omega)
  have hres : FB w4 (w.heap.size + 1) (fm0 0) := o4.blk (Blk.alloc (fm0_at (by simp)) _) (by omega)
  have bl4 : Below w.heap.size w w4 := below_onto ((((Below.refl _ _).alloc (Nat.le_refl _) _).alloc (by simp) _).alloc (by simp; omega) _) o4 (by simp; omega) (by intro z hz h; omega)
  have c0 := (hbox.fc h16).c0
  rw [hk] at c0
  have HO := hb4.fc h16
  have x1 := HO.c1
  have x2 := HO.c2
  have x5 := HO.c5
  have x6 := HO.c6
  have x8 := HO.c8
  have x25 := HO.c25
  have x26 := HO.c26
  have f1 := HO.free 1
  have f2 := HO.free 2
  have f5 := HO.free 5
  have f6 := HO.free 6
  have f8 := HO.free 8
  have f25 := HO.free 25
  have f26 := HO.free 26
  have HB4 := Lib.hid hb4
  have HR := Lib.hid hres
  have H16 := Lib.hid h16
  have HK := Lib.hid hk
  clear hb4 hres o4 HO hbox h16 hk
  go_wp2_with (fail)
  refine (drop_any w4.heap.size (w.heap.size + 1 + 1) [.data] p _ 1 (by decide) (blk_at (by simp) rfl) (Blk.alloc HB4.out _) (by omega)).mono ?_
  rintro e w7 ⟨rfl, hq7, o7⟩
  have HQ7 := Lib.hid hq7
  have HX7 := Lib.hid (((Only.refl (· = w.heap.size + 1 + 1) w4).alloc _).trans o7)
  clear hq7 o7
  go_wp2_with (with_reducible refine stop_ldf ?_)
  refine Stop.out ?_
  refine wpList_loadF rfl rfl (effs p [.data]) (by exact H16.out) rfl HQ7.out ?_
  go_wp2_with (with_reducible refine stop_stf ?_)
  refine Stop.out ?_
  refine wpList_storeF rfl rfl (effs p [.data]) (fm0 0) (by exact H16.out) rfl rfl rfl (HX7.out.blk HR.out (by omega)) ?_
  intro w9 hb9 o9
  go_wp2_with (fail)
  refine bodyPost_ret (results_cell_row rfl _ _ _ _ _ _ _ rfl hb9 Try.underlying36 rfl (by rw [FM.size _ (by exact H16.out)]; exact fr_size)) rfl ?_
  refine ⟨⟨(effs p [.data]), ?_, rfl⟩, below_onto (below_onto bl4 HX7.out (by omega) (by intro z hz h; omega)) o9 (by have := HX7.out.size; omega) (by intro z hz h; omega)⟩
  have hk := HK.out
  obtain ⟨⟨k', _, _, _, _, _, _, _, _, _, _, _, _, _, _⟩, _, _, _, _, _, _⟩ := p
  obtain rfl : k' = 26 := hk
  rfl

set_option maxHeartbeats 4000000 in
set_option maxRecDepth 100000 in
theorem bare_27 (p : FM) (w : World) (h16 : p.f.tok.length = 16)  (hk : p.f.kind = 27) : Calls Try.prog 26 #[.agg p.vals] w fun e w' => (∃ q : FM, q.f = bareF p.f ∧ e = .returned (.agg q.vals)) ∧ Below w.heap.size w w' := by
  go_enter Try.func26, Try.ntmps26
  go_wp2_with (first | with_reducible refine stop_ldf ?_ | with_reducible refine stop_stf ?_)
  refine Stop.out ?_
  refine wpList_loadF rfl rfl p h16 rfl (Blk.alloc (Blk.new w p.vals 36) _) ?_
  go_wp2_with (first | with_reducible refine stop_ldf ?_ | with_reducible refine stop_stf ?_)
  refine Stop.out ?_
  refine wpList_storeF rfl rfl p (fm0 0) h16 rfl rfl rfl (fm0_at (by simp)) ?_
  intro w4 hb4 o4
  have z4 := o4.size
  simp only [World.size_alloc] at z4
  have hbox : FB w4 w.heap.size p := o4.blk (Blk.alloc (Blk.alloc (Blk.new w p.vals 36) _) _) (by omega)
  have hres : FB w4 (w.heap.size + 1) (fm0 0) := o4.blk (Blk.alloc (fm0_at (by simp)) _) (by omega)
  have bl4 : Below w.heap.size w w4 := below_onto ((((Below.refl _ _).alloc (Nat.le_refl _) _).alloc (by simp) _).alloc (by simp; omega) _) o4 (by simp; omega) (by intro z hz h; omega)
  have c0 := (hbox.fc h16).c0
  rw [hk] at c0
  have HO := hb4.fc h16
  have x1 := HO.c1
  have x2 := HO.c2
  have x5 := HO.c5
  have x6 := HO.c6
  have x8 := HO.c8
  have x25 := HO.c25
  have x26 := HO.c26
  have f1 := HO.free 1
  have f2 := HO.free 2
  have f5 := HO.free 5
  have f6 := HO.free 6
  have f8 := HO.free 8
  have f25 := HO.free 25
  have f26 := HO.free 26
  have HB4 := Lib.hid hb4
  have HR := Lib.hid hres
  have H16 := Lib.hid h16
  have HK := Lib.hid hk
  clear hb4 hres o4 HO hbox h16 hk
  go_wp2_with (fail)
  refine (drop_any w4.heap.size (w.heap.size + 1 + 1) [.data] p _ 1 (by decide) (blk_at (by simp) rfl) (Blk.alloc HB4.out _) (by omega)).mono ?_
  rintro e w7 ⟨rfl, hq7, o7⟩
  have HQ7 := Lib.hid hq7
  have HX7 := Lib.hid (((Only.refl (· = w.heap.size + 1 + 1) w4).alloc _).trans o7)
  clear hq7 o7
  go_wp2_with (with_reducible refine stop_ldf ?_)
  refine Stop.out ?_
  refine wpList_loadF rfl rfl (effs p [.data]) (by exact H16.out) rfl HQ7.out ?_
  go_wp2_with (with_reducible refine stop_stf ?_)
  refine Stop.out ?_
  refine wpList_storeF rfl rfl (effs p [.data]) (fm0 0) (by exact H16.out) rfl rfl rfl (HX7.out.blk HR.out (by omega)) ?_
  intro w9 hb9 o9
  go_wp2_with (fail)
  refine bodyPost_ret (results_cell_row rfl _ _ _ _ _ _ _ rfl hb9 Try.underlying36 rfl (by rw [FM.size _ (by exact H16.out)]; exact fr_size)) rfl ?_
  refine ⟨⟨(effs p [.data]), ?_, rfl⟩, below_onto (below_onto bl4 HX7.out (by omega) (by intro z hz h; omega)) o9 (by have := HX7.out.size; omega) (by intro z hz h; omega)⟩
  have hk := HK.out
  obtain ⟨⟨k', _, _, _, _, _, _, _, _, _, _, _, _, _, _⟩, _, _, _, _, _, _⟩ := p
  obtain rfl : k' = 27 := hk
  rfl

set_option maxHeartbeats 4000000 in
set_option maxRecDepth 100000 in
theorem bare_28 (p : FM) (w : World) (h16 : p.f.tok.length = 16)  (hk : p.f.kind = 28) : Calls Try.prog 26 #[.agg p.vals] w fun e w' => (∃ q : FM, q.f = bareF p.f ∧ e = .returned (.agg q.vals)) ∧ Below w.heap.size w w' := by
  go_enter Try.func26, Try.ntmps26
  go_wp2_with (first | with_reducible refine stop_ldf ?_ | with_reducible refine stop_stf ?_)
  refine Stop.out ?_
  refine wpList_loadF rfl rfl p h16 rfl (Blk.alloc (Blk.new w p.vals 36) _) ?_
  go_wp2_with (first | with_reducible refine stop_ldf ?_ | with_reducible refine stop_stf ?_)
  refine Stop.out ?_
  refine wpList_storeF rfl rfl p (fm0 0) h16 rfl rfl rfl (fm0_at (by simp)) ?_
  intro w4 hb4 o4
  have z4 := o4.size
  simp only [World.size_alloc] at z4
  have hbox : FB w4 w.heap.size p := o4.blk (Blk.alloc (Blk.alloc (Blk.new w p.vals 36) _) _) (by omega)
  have hres : FB w4 (w.heap.size + 1) (fm0 0) := o4.blk (Blk.alloc (fm0_at (by simp)) _) (by omega)
  have bl4 : Below w.heap.size w w4 := below_onto ((((Below.refl _ _).alloc (Nat.le_refl _) _).alloc (by simp) _).alloc (by simp; omega) _) o4 (by simp; omega) (by intro z hz h; omega)
  have c0 := (hbox.fc h16).c0
  rw [hk] at c0
  have HO := hb4.fc h16
  have x1 := HO.c1
  have x2 := HO.c2
  have x5 := HO.c5
  have x6 := HO.c6
  have x8 := HO.c8
  have x25 := HO.c25
  have x26 := HO.c26
  have f1 := HO.free 1
  have f2 := HO.free 2
  have f5 := HO.free 5
  have f6 := HO.free 6
  have f8 := HO.free 8
  have f25 := HO.free 25
  have f26 := HO.free 26
  have HB4 := Lib.hid hb4
  have HR := Lib.hid hres
  have H16 := Lib.hid h16
  have HK := Lib.hid hk
  clear hb4 hres o4 HO hbox h16 hk
  go_wp2_with (fail)
  refine (drop_any w4.heap.size (w.heap.size + 1 + 1) [.code, .most, .data] p _ 1 (by decide) (blk_at (by simp) rfl) (Blk.alloc HB4.out _) (by omega)).mono ?_
  rintro e w7 ⟨rfl, hq7, o7⟩
  have HQ7 := Lib.hid hq7
  have HX7 := Lib.hid (((Only.refl (· = w.heap.size + 1 + 1) w4).alloc _).trans o7)
  clear hq7 o7
  go_wp2_with (with_reducible refine stop_ldf ?_)
  refine Stop.out ?_
  refine wpList_loadF rfl rfl (effs p [.code, .most, .data]) (by exact H16.out) rfl HQ7.out ?_
  go_wp2_with (with_reducible refine stop_stf ?_)
  refine Stop.out ?_
  refine wpList_storeF rfl rfl (effs p [.code, .most, .data]) (fm0 0) (by exact H16.out) rfl rfl rfl (HX7.out.blk HR.out (by omega)) ?_
  intro w9 hb9 o9
  go_wp2_with (fail)
  refine bodyPost_ret (results_cell_row rfl _ _ _ _ _ _ _ rfl hb9 Try.underlying36 rfl (by rw [FM.size _ (by exact H16.out)]; exact fr_size)) rfl ?_
  refine ⟨⟨(effs p [.code, .most, .data]), ?_, rfl⟩, below_onto (below_onto bl4 HX7.out (by omega) (by intro z hz h; omega)) o9 (by have := HX7.out.size; omega) (by intro z hz h; omega)⟩
  have hk := HK.out
  obtain ⟨⟨k', _, _, _, _, _, _, _, _, _, _, _, _, _, _⟩, _, _, _, _, _, _⟩ := p
  obtain rfl : k' = 28 := hk
  rfl

set_option maxHeartbeats 4000000 in
set_option maxRecDepth 100000 in
theorem bare_29 (p : FM) (w : World) (h16 : p.f.tok.length = 16)  (hk : p.f.kind = 29) : Calls Try.prog 26 #[.agg p.vals] w fun e w' => (∃ q : FM, q.f = bareF p.f ∧ e = .returned (.agg q.vals)) ∧ Below w.heap.size w w' := by
  go_enter Try.func26, Try.ntmps26
  go_wp2_with (first | with_reducible refine stop_ldf ?_ | with_reducible refine stop_stf ?_)
  refine Stop.out ?_
  refine wpList_loadF rfl rfl p h16 rfl (Blk.alloc (Blk.new w p.vals 36) _) ?_
  go_wp2_with (first | with_reducible refine stop_ldf ?_ | with_reducible refine stop_stf ?_)
  refine Stop.out ?_
  refine wpList_storeF rfl rfl p (fm0 0) h16 rfl rfl rfl (fm0_at (by simp)) ?_
  intro w4 hb4 o4
  have z4 := o4.size
  simp only [World.size_alloc] at z4
  have hbox : FB w4 w.heap.size p := o4.blk (Blk.alloc (Blk.alloc (Blk.new w p.vals 36) _) _) (by omega)
  have hres : FB w4 (w.heap.size + 1) (fm0 0) := o4.blk (Blk.alloc (fm0_at (by simp)) _) (by omega)
  have bl4 : Below w.heap.size w w4 := below_onto ((((Below.refl _ _).alloc (Nat.le_refl _) _).alloc (by simp) _).alloc (by simp; omega) _) o4 (by simp; omega) (by intro z hz h; omega)
  have c0 := (hbox.fc h16).c0
  rw [hk] at c0
  have HO := hb4.fc h16
  have x1 := HO.c1
  have x2 := HO.c2
  have x5 := HO.c5
  have x6 := HO.c6
  have x8 := HO.c8
  have x25 := HO.c25
  have x26 := HO.c26
  have f1 := HO.free 1
  have f2 := HO.free 2
  have f5 := HO.free 5
  have f6 := HO.free 6
  have f8 := HO.free 8
  have f25 := HO.free 25
  have f26 := HO.free 26
  have HB4 := Lib.hid hb4
  have HR := Lib.hid hres
  have H16 := Lib.hid h16
  have HK := Lib.hid hk
  clear hb4 hres o4 HO hbox h16 hk
  go_wp2_with (fail)
  refine (drop_any w4.heap.size (w.heap.size + 1 + 1) [.code, .data] p _ 1 (by decide) (blk_at (by simp) rfl) (Blk.alloc HB4.out _) (by omega)).mono ?_
  rintro e w7 ⟨rfl, hq7, o7⟩
  have HQ7 := Lib.hid hq7
  have HX7 := Lib.hid (((Only.refl (· = w.heap.size + 1 + 1) w4).alloc _).trans o7)
  clear hq7 o7
  go_wp2_with (with_reducible refine stop_ldf ?_)
  refine Stop.out ?_
  refine wpList_loadF rfl rfl (effs p [.code, .data]) (by exact H16.out) rfl HQ7.out ?_
  go_wp2_with (with_reducible refine stop_stf ?_)
  refine Stop.out ?_
  refine wpList_storeF rfl rfl (effs p [.code, .data]) (fm0 0) (by exact H16.out) rfl rfl rfl (HX7.out.blk HR.out (by omega)) ?_
  intro w9 hb9 o9
  go_wp2_with (fail)
  refine bodyPost_ret (results_cell_row rfl _ _ _ _ _ _ _ rfl hb9 Try.underlying36 rfl (by rw [FM.size _ (by exact H16.out)]; exact fr_size)) rfl ?_
  refine ⟨⟨(effs p [.code, .data]), ?_, rfl⟩, below_onto (below_onto bl4 HX7.out (by omega) (by intro z hz h; omega)) o9 (by have := HX7.out.size; omega) (by intro z hz h; omega)⟩
  have hk := HK.out
  obtain ⟨⟨k', _, _, _, _, _, _, _, _, _, _, _, _, _, _⟩, _, _, _, _, _, _⟩ := p
  obtain rfl : k' = 29 := hk
  rfl

set_option maxHeartbeats 4000000 in
set_option maxRecDepth 100000 in
theorem bare_d (p : FM) (w : World) (h16 : p.f.tok.length = 16) (k : Int) (n0 : ¬ k = 0) (n2 : ¬ k = 2) (n3 : ¬ k = 3) (n4 : ¬ k = 4) (n5 : ¬ k = 5) (n6 : ¬ k = 6) (n7 : ¬ k = 7) (n8 : ¬ k = 8) (n16 : ¬ k = 16) (n17 : ¬ k = 17) (n18 : ¬ k = 18) (n19 : ¬ k = 19) (n20 : ¬ k = 20) (n21 : ¬ k = 21) (n22 : ¬ k = 22) (n23 : ¬ k = 23) (n24 : ¬ k = 24) (n25 : ¬ k = 25) (n26 : ¬ k = 26) (n27 : ¬ k = 27) (n28 : ¬ k = 28) (n29 : ¬ k = 29) (hk : p.f.kind = k) : Calls Try.prog 26 #[.agg p.vals] w fun e w' => (∃ q : FM, q.f = bareF p.f ∧ e = .returned (.agg q.vals)) ∧ Below w.heap.size w w' := by
  go_enter Try.func26, Try.ntmps26
  go_wp2_with (first | with_reducible refine stop_ldf ?_ | with_reducible refine stop_stf ?_)
  refine Stop.out ?_
  refine wpList_loadF rfl rfl p h16 rfl (Blk.alloc (Blk.new w p.vals 36) _) ?_
  go_wp2_with (first | with_reducible refine stop_ldf ?_ | with_reducible refine stop_stf ?_)
  refine Stop.out ?_
  refine wpList_storeF rfl rfl p (fm0 0) h16 rfl rfl rfl (fm0_at (by simp)) ?_
  intro w4 hb4 o4
  have z4 := o4.size
  simp only [World.size_alloc] at z4
  have hbox : FB w4 w.heap.size p := o4.blk (Blk.alloc (Blk.alloc (Blk.new w p.vals 36) _) _) (by omega)
  have hres : FB w4 (w.heap.size + 1) (fm0 0) := o4.blk (Blk.alloc (fm0_at (by simp)) _) (by omega)
  have bl4 : Below w.heap.size w w4 := below_onto ((((Below.refl _ _).alloc (Nat.le_refl _) _).alloc (by simp) _).alloc (by simp; omega) _) o4 (by simp; omega) (by intro z hz h; omega)
  have c0 := (hbox.fc h16).c0
  rw [hk] at c0
  have HO := hb4.fc h16
  have x1 := HO.c1
  have x2 := HO.c2
  have x5 := HO.c5
  have x6 := HO.c6
  have x8 := HO.c8
  have x25 := HO.c25
  have x26 := HO.c26
  have f1 := HO.free 1
  have f2 := HO.free 2
  have f5 := HO.free 5
  have f6 := HO.free 6
  have f8 := HO.free 8
  have f25 := HO.free 25
  have f26 := HO.free 26
  have HB4 := Lib.hid hb4
  have HR := Lib.hid hres
  have H16 := Lib.hid h16
  have HK := Lib.hid hk
  clear hb4 hres o4 HO hbox h16 hk
  have HX8 := Lib.hid (Only.refl (· = w.heap.size + 1 + 1) w4)
  go_wp2_with (with_reducible refine stop_ldf ?_)
  refine Stop.out ?_
  refine wpList_loadF rfl rfl p (by exact H16.out) rfl HB4.out ?_
  go_wp2_with (with_reducible refine stop_stf ?_)
  refine Stop.out ?_
  refine wpList_storeF rfl rfl p (fm0 0) (by exact H16.out) rfl rfl rfl (HX8.out.blk HR.out (by omega)) ?_
  intro w9 hb9 o9
  go_wp2_with (fail)
  refine bodyPost_ret (results_cell_row rfl _ _ _ _ _ _ _ rfl hb9 Try.underlying36 rfl (by rw [FM.size _ (by exact H16.out)]; exact fr_size)) rfl ?_
  refine ⟨⟨p, ?_, rfl⟩, below_onto (below_onto bl4 HX8.out (by omega) (by intro z hz h; omega)) o9 (by have := HX8.out.size; omega) (by intro z hz h; omega)⟩
  have hk := HK.out
  unfold bareF
  rw [hk]
  simp [hId, hOff, hMax, hCode, hN, hFin, hData, hCid, hAck, hEcn, n0, n2, n3, n4, n5, n6, n7, n8, n16, n17, n18, n19, n20, n21, n22, n23, n24, n25, n26, n27, n28, n29]
  rw [← hk]

theorem bare_any (p : FM) (w : World) (h16 : p.f.tok.length = 16) : Calls Try.prog 26 #[.agg p.vals] w fun e w' => (∃ q : FM, q.f = bareF p.f ∧ e = .returned (.agg q.vals)) ∧ Below w.heap.size w w' := by
  by_cases n0 : p.f.kind = 0
  · exact bare_0 p w h16 n0
  by_cases n2 : p.f.kind = 2
  · exact bare_2 p w h16 n2
  by_cases n3 : p.f.kind = 3
  · exact bare_3 p w h16 n3
  by_cases n4 : p.f.kind = 4
  · exact bare_4 p w h16 n4
  by_cases n5 : p.f.kind = 5
  · exact bare_5 p w h16 n5
  by_cases n6 : p.f.kind = 6
  · exact bare_6 p w h16 n6
  by_cases n7 : p.f.kind = 7
  · exact bare_7 p w h16 n7
  by_cases n8 : p.f.kind = 8
  · exact bare_8 p w h16 n8
  by_cases n16 : p.f.kind = 16
  · exact bare_16 p w h16 n16
  by_cases n17 : p.f.kind = 17
  · exact bare_17 p w h16 n17
  by_cases n18 : p.f.kind = 18
  · exact bare_18 p w h16 n18
  by_cases n19 : p.f.kind = 19
  · exact bare_19 p w h16 n19
  by_cases n20 : p.f.kind = 20
  · exact bare_20 p w h16 n20
  by_cases n21 : p.f.kind = 21
  · exact bare_21 p w h16 n21
  by_cases n22 : p.f.kind = 22
  · exact bare_22 p w h16 n22
  by_cases n23 : p.f.kind = 23
  · exact bare_23 p w h16 n23
  by_cases n24 : p.f.kind = 24
  · exact bare_24 p w h16 n24
  by_cases n25 : p.f.kind = 25
  · exact bare_25 p w h16 n25
  by_cases n26 : p.f.kind = 26
  · exact bare_26 p w h16 n26
  by_cases n27 : p.f.kind = 27
  · exact bare_27 p w h16 n27
  by_cases n28 : p.f.kind = 28
  · exact bare_28 p w h16 n28
  by_cases n29 : p.f.kind = 29
  · exact bare_29 p w h16 n29
  exact bare_d p w h16 p.f.kind n0 n2 n3 n4 n5 n6 n7 n8 n16 n17 n18 n19 n20 n21 n22 n23 n24 n25 n26 n27 n28 n29 rfl
end Frm
end Go.Proofs.Ytcpjehgoeibbeaa
