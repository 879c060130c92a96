/- Streams: what the law begins with. -/
import Derived.Test.YtgpnfdeneagdbaaGreatCo21
namespace Go.Proofs.YtgpnfdeneagdbaaGreat
open Go.RowKit
set_option linter.unusedVariables false
def heavyB (q : Nat → Nat) : Bool := decide (20 < max (q 7) (q 8)) || decide (1048576 < max (max (max (q 3) (q 4)) (q 5)) (q 6))
theorem run_max4 (P : Program) (t : Array TypeId) (ty : TypeId) (k k' k'' k3 : IntKind) (x y z u : Int) (w : World) :
    (Builtin.max_ t ty #[.int k x, .int k' y, .int k'' z, .int k3 u]).run P w = .ok (.int k (max (max (max x y) z) u)) w := by
  unfold Builtin.max_
  simp only [List.foldlM_cons, List.foldlM_nil, bind_pure]
  rw [show (Builtin.max2 (.int k x) (.int k' y) >>= fun s => Builtin.max2 s (.int k'' z) >>= fun s => Builtin.max2 s (.int k3 u)) = Sem.bind (Builtin.max2 (.int k x) (.int k' y)) (fun s => Builtin.max2 s (.int k'' z) >>= fun s => Builtin.max2 s (.int k3 u)) from rfl, Sem.run_bind', max2_int]
  show ((Builtin.max2 (.int k (max x y)) (.int k'' z)) >>= fun s => Builtin.max2 s (.int k3 u)).run P w = _
  rw [show ((Builtin.max2 (.int k (max x y)) (.int k'' z)) >>= fun s => Builtin.max2 s (.int k3 u)) = Sem.bind (Builtin.max2 (.int k (max x y)) (.int k'' z)) (fun s => Builtin.max2 s (.int k3 u)) from rfl, Sem.run_bind', max2_int]
  exact max2_int P k k3 _ u w
attribute [go_sem ↓] run_max4
set_option maxRecDepth 100000 in
set_option maxHeartbeats 4000000 in
theorem heavy_any (cs : List Value) (q : Nat → Nat) (w : World) (h : PaW cs q) : Calls Tryz.prog 5 #[.agg cs.toArray] w fun e w' => Below w.heap.size w w' ∧ e = .returned (.bool (heavyB q)) := by
  have x1 := Blk.new w cs.toArray 27
  have b1 : Below w.heap.size w (w.alloc (.cells cs.toArray 27)) := (Below.refl _ _).alloc (Nat.le_refl _) _
  have hc := fun k h2 h11 => x1.cell k _ (arr_get (h.c k h2 h11).1)
  have c3 := hc 3 (by omega) (by omega)
  have c4 := hc 4 (by omega) (by omega)
  have c5 := hc 5 (by omega) (by omega)
  have c6 := hc 6 (by omega) (by omega)
  have c7 := hc 7 (by omega) (by omega)
  have c8 := hc 8 (by omega) (by omega)
  obtain ⟨r, hr⟩ : ∃ r, heavyB q = r := ⟨_, rfl⟩
  rw [hr]
  unfold heavyB at hr
  generalize q 3 = q3 at *
  generalize q 4 = q4 at *
  generalize q 5 = q5 at *
  generalize q 6 = q6 at *
  generalize q 7 = q7 at *
  generalize q 8 = q8 at *
  have B1 := Lib.hid b1
  clear hc h x1 b1
  by_cases h20 : 20 < max q7 q8
  · have h20' : (20 : Int) < max (q7 : Int) (q8 : Int) := by omega
    have e : r = true := by rw [← hr]; simp [h20]
    subst e
    clear hr h20
    go_enter Tryz.func5, Tryz.ntmps5
    go_wp2_with (fail)
    go_returns
    exact ⟨B1.out, rfl⟩
  · have h20' : ¬ (20 : Int) < max (q7 : Int) (q8 : Int) := by omega
    have e : r = decide (1048576 < max (max (max q3 q4) q5) q6) := by rw [← hr]; simp [h20]
    have e2 : Hid (decide ((1048576 : Int) < max (q3 : Int) (max (q4 : Int) (max (q5 : Int) (q6 : Int)))) = r) := Lib.hid (by rw [e, Bool.eq_iff_iff, decide_eq_true_iff, decide_eq_true_iff]; omega)
    clear hr h20 e
    go_enter Tryz.func5, Tryz.ntmps5
    go_wp2_with (fail)
    go_returns
    exact ⟨B1.out, by rw [← e2.out]; rfl⟩
def setV (sv : Bool) (q r : Nat → Nat) (ow pe : List Value) : List Value := [.int .u64 (r 3 : Nat), .int .u64 0, .int .u64 (q 3 : Nat), .int .u64 0, .int .u64 0, .int .u64 0, .int .u64 0, .int .u64 (r 7 : Nat), .int .u64 (r 8 : Nat), .int .u64 0, .int .u64 0, .int .u64 (q 7 : Nat), .int .u64 (q 8 : Nat), .bool sv] ++ (ow ++ (pe ++ [.slice none 0 0]))
theorem pa_list {cs : List Value} {q : Nat → Nat} (h : PaW cs q) : ∃ (o0 o1 o2 o9 o10 o11 o12 o13 o14 o15 o16 o17 o18 o19 o20 o21 o22 o23 o24 o25 o26 o27 : Value), cs = [o0, o1, o2, .int .u64 (q 3 : Nat), .int .u64 (q 4 : Nat), .int .u64 (q 5 : Nat), .int .u64 (q 6 : Nat), .int .u64 (q 7 : Nat), .int .u64 (q 8 : Nat), o9, o10, o11, o12, o13, o14, o15, o16, o17, o18, o19, o20, o21, o22, o23, o24, o25, o26, o27] := by
  match cs, h.len with
  | [o0, o1, o2, o3, o4, o5, o6, o7, o8, o9, o10, o11, o12, o13, o14, o15, o16, o17, o18, o19, o20, o21, o22, o23, o24, o25, o26, o27], _ =>
    have h3 := (h.c 3 (by omega) (by omega)).1
    have h4 := (h.c 4 (by omega) (by omega)).1
    have h5 := (h.c 5 (by omega) (by omega)).1
    have h6 := (h.c 6 (by omega) (by omega)).1
    have h7 := (h.c 7 (by omega) (by omega)).1
    have h8 := (h.c 8 (by omega) (by omega)).1
    simp at h3 h4 h5 h6 h7 h8
    subst h3 h4 h5 h6 h7 h8
    exact ⟨o0, o1, o2, o9, o10, o11, o12, o13, o14, o15, o16, o17, o18, o19, o20, o21, o22, o23, o24, o25, o26, o27, rfl⟩
theorem stop_ldp {P : Program} {ops : Array Oper} {rest : List Oper} {a : Act} {w : World} {Q : Exit → Act → World → Prop} {d : Option Tmp} {x : Operand} {ty : TypeId} {pos : String} {aft : Array Edge} {g : Option (Nat × Bool)}
    (h : Stop (wpList P ops Q (⟨d, .load 27 x, ty, pos, aft, g⟩ :: rest) a w)) : wpList P ops Q (⟨d, .load 27 x, ty, pos, aft, g⟩ :: rest) a w := h
theorem pa_size : ((Tryz.prog).info? 27).map (·.size) = some 28 := by kernel_rfl
set_option maxRecDepth 100000 in
set_option maxHeartbeats 8000000 in
theorem of_any (sv : Bool) (ow pe : List Value) (q r : Nat → Nat) (w : World) (h1 : PaW ow q) (h2 : PaW pe r) :
    Calls Tryz.prog 7 #[.bool sv, .agg ow.toArray, .agg pe.toArray] w fun e w' => ∃ s, e = .returned (.pointer (some ⟨s, 0, none⟩)) ∧ w.heap.size ≤ s ∧ Below w.heap.size w w' ∧ Blk w' s (setV sv q r ow pe).toArray 54 := by
  obtain ⟨o0, o1, o2, o9, o10, o11, o12, o13, o14, o15, o16, o17, o18, o19, o20, o21, o22, o23, o24, o25, o26, o27, rfl⟩ := pa_list h1
  obtain ⟨e0, e1, e2, e9, e10, e11, e12, e13, e14, e15, e16, e17, e18, e19, e20, e21, e22, e23, e24, e25, e26, e27, rfl⟩ := pa_list h2
  clear h1 h2
  go_enter Tryz.func7, Tryz.ntmps7
  go_upto_region 1 with (fail)
  have b1 : Below w.heap.size w ((w.alloc (.cells [o0, o1, o2, .int .u64 (q 3 : Nat), .int .u64 (q 4 : Nat), .int .u64 (q 5 : Nat), .int .u64 (q 6 : Nat), .int .u64 (q 7 : Nat), .int .u64 (q 8 : Nat), o9, o10, o11, o12, o13, o14, o15, o16, o17, o18, o19, o20, o21, o22, o23, o24, o25, o26, o27].toArray 27)).alloc (.cells [e0, e1, e2, .int .u64 (r 3 : Nat), .int .u64 (r 4 : Nat), .int .u64 (r 5 : Nat), .int .u64 (r 6 : Nat), .int .u64 (r 7 : Nat), .int .u64 (r 8 : Nat), e9, e10, e11, e12, e13, e14, e15, e16, e17, e18, e19, e20, e21, e22, e23, e24, e25, e26, e27].toArray 27)) := ((Below.refl _ _).alloc (Nat.le_refl _) _).alloc (by simp) _
  have x1 : Blk ((w.alloc (.cells [o0, o1, o2, .int .u64 (q 3 : Nat), .int .u64 (q 4 : Nat), .int .u64 (q 5 : Nat), .int .u64 (q 6 : Nat), .int .u64 (q 7 : Nat), .int .u64 (q 8 : Nat), o9, o10, o11, o12, o13, o14, o15, o16, o17, o18, o19, o20, o21, o22, o23, o24, o25, o26, o27].toArray 27)).alloc (.cells [e0, e1, e2, .int .u64 (r 3 : Nat), .int .u64 (r 4 : Nat), .int .u64 (r 5 : Nat), .int .u64 (r 6 : Nat), .int .u64 (r 7 : Nat), .int .u64 (r 8 : Nat), e9, e10, e11, e12, e13, e14, e15, e16, e17, e18, e19, e20, e21, e22, e23, e24, e25, e26, e27].toArray 27)) w.heap.size [o0, o1, o2, .int .u64 (q 3 : Nat), .int .u64 (q 4 : Nat), .int .u64 (q 5 : Nat), .int .u64 (q 6 : Nat), .int .u64 (q 7 : Nat), .int .u64 (q 8 : Nat), o9, o10, o11, o12, o13, o14, o15, o16, o17, o18, o19, o20, o21, o22, o23, o24, o25, o26, o27].toArray 27 := (Blk.new w _ _).alloc _
  have z1 : (w.alloc (.cells [o0, o1, o2, .int .u64 (q 3 : Nat), .int .u64 (q 4 : Nat), .int .u64 (q 5 : Nat), .int .u64 (q 6 : Nat), .int .u64 (q 7 : Nat), .int .u64 (q 8 : Nat), o9, o10, o11, o12, o13, o14, o15, o16, o17, o18, o19, o20, o21, o22, o23, o24, o25, o26, o27].toArray 27)).heap.size = w.heap.size + 1 := alloc_size' _ _
  have x2 := Blk.new (w.alloc (.cells [o0, o1, o2, .int .u64 (q 3 : Nat), .int .u64 (q 4 : Nat), .int .u64 (q 5 : Nat), .int .u64 (q 6 : Nat), .int .u64 (q 7 : Nat), .int .u64 (q 8 : Nat), o9, o10, o11, o12, o13, o14, o15, o16, o17, o18, o19, o20, o21, o22, o23, o24, o25, o26, o27].toArray 27)) [e0, e1, e2, .int .u64 (r 3 : Nat), .int .u64 (r 4 : Nat), .int .u64 (r 5 : Nat), .int .u64 (r 6 : Nat), .int .u64 (r 7 : Nat), .int .u64 (r 8 : Nat), e9, e10, e11, e12, e13, e14, e15, e16, e17, e18, e19, e20, e21, e22, e23, e24, e25, e26, e27].toArray 27
  rw [z1] at x2
  generalize ((w.alloc (.cells [o0, o1, o2, .int .u64 (q 3 : Nat), .int .u64 (q 4 : Nat), .int .u64 (q 5 : Nat), .int .u64 (q 6 : Nat), .int .u64 (q 7 : Nat), .int .u64 (q 8 : Nat), o9, o10, o11, o12, o13, o14, o15, o16, o17, o18, o19, o20, o21, o22, o23, o24, o25, o26, o27].toArray 27)).alloc (.cells [e0, e1, e2, .int .u64 (r 3 : Nat), .int .u64 (r 4 : Nat), .int .u64 (r 5 : Nat), .int .u64 (r 6 : Nat), .int .u64 (r 7 : Nat), .int .u64 (r 8 : Nat), e9, e10, e11, e12, e13, e14, e15, e16, e17, e18, e19, e20, e21, e22, e23, e24, e25, e26, e27].toArray 27)) = w1 at b1 x1 x2 ⊢
  clear z1
  have p3 := x1.cell 3 _ rfl
  have p7 := x1.cell 7 _ rfl
  have p8 := x1.cell 8 _ rfl
  have r3 := x2.cell 3 _ rfl
  have r7 := x2.cell 7 _ rfl
  have r8 := x2.cell 8 _ rfl
  have X1 := Lib.hid x1
  have X2 := Lib.hid x2
  have B1 := Lib.hid b1
  clear x1 x2 b1
  go_wp2_with (with_reducible refine stop_ldp ?_)
  refine Stop.out ?_
  refine wpList_loadPart [o0, o1, o2, .int .u64 (q 3 : Nat), .int .u64 (q 4 : Nat), .int .u64 (q 5 : Nat), .int .u64 (q 6 : Nat), .int .u64 (q 7 : Nat), .int .u64 (q 8 : Nat), o9, o10, o11, o12, o13, o14, o15, o16, o17, o18, o19, o20, o21, o22, o23, o24, o25, o26, o27] Tryz.underlying27 rfl pa_size rfl rfl rfl (fun j v hv => by rw [Nat.zero_add]; exact X1.out.cell j v (by simpa using hv)) ?_
  go_wp2_with (with_reducible refine stop_ldp ?_)
  refine Stop.out ?_
  refine wpList_loadPart [e0, e1, e2, .int .u64 (r 3 : Nat), .int .u64 (r 4 : Nat), .int .u64 (r 5 : Nat), .int .u64 (r 6 : Nat), .int .u64 (r 7 : Nat), .int .u64 (r 8 : Nat), e9, e10, e11, e12, e13, e14, e15, e16, e17, e18, e19, e20, e21, e22, e23, e24, e25, e26, e27] Tryz.underlying27 rfl pa_size rfl rfl rfl (fun j v hv => by rw [Nat.zero_add]; exact X2.out.cell j v (by simpa using hv)) ?_
  go_wp2_with (fail)
  go_returns
  refine ⟨w1.heap.size, rfl, B1.out.size, B1.out.alloc B1.out.size _, Blk.congr (Blk.new w1 _ _) ?_⟩
  simp only [Tryz.zeroCells54, setV, List.append_eq, List.cons_append, List.nil_append, List.setIfInBounds_toArray, List.set_cons_succ, List.set_cons_zero]
end Go.Proofs.YtgpnfdeneagdbaaGreat
