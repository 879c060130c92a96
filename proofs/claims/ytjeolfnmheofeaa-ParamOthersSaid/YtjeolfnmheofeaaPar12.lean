/- ParamAppends: the arguments. -/
import Derived.Test.YtjeolfnmheofeaaPar11
import Derived.Test.YtjeolfnmheofeaaArgSl
namespace Go.Proofs.Ytjeolfnmheofeaa
open Go.RowKit
set_option linter.unusedVariables false
namespace Par

theorem list28 (T : List Value) (h : T.length = 28) : T = [T.getD 0 undef, T.getD 1 undef, T.getD 2 undef, T.getD 3 undef, T.getD 4 undef, T.getD 5 undef, T.getD 6 undef, T.getD 7 undef, T.getD 8 undef, T.getD 9 undef, T.getD 10 undef, T.getD 11 undef, T.getD 12 undef, T.getD 13 undef, T.getD 14 undef, T.getD 15 undef, T.getD 16 undef, T.getD 17 undef, T.getD 18 undef, T.getD 19 undef, T.getD 20 undef, T.getD 21 undef, T.getD 22 undef, T.getD 23 undef, T.getD 24 undef, T.getD 25 undef, T.getD 26 undef, T.getD 27 undef] := by
  apply List.ext_getElem (by simpa using h)
  intro i h1 h2
  rcases (by omega : i = 0 ∨ i = 1 ∨ i = 2 ∨ i = 3 ∨ i = 4 ∨ i = 5 ∨ i = 6 ∨ i = 7 ∨ i = 8 ∨ i = 9 ∨ i = 10 ∨ i = 11 ∨ i = 12 ∨ i = 13 ∨ i = 14 ∨ i = 15 ∨ i = 16 ∨ i = 17 ∨ i = 18 ∨ i = 19 ∨ i = 20 ∨ i = 21 ∨ i = 22 ∨ i = 23 ∨ i = 24 ∨ i = 25 ∨ i = 26 ∨ i = 27) with rfl | rfl | rfl | rfl | rfl | rfl | rfl | rfl | rfl | rfl | rfl | rfl | rfl | rfl | rfl | rfl | rfl | rfl | rfl | rfl | rfl | rfl | rfl | rfl | rfl | rfl | rfl | rfl <;> simp [List.getD_eq_getElem?_getD, h]
theorem drop_one (T : List Value) (k : Nat) (h : k < T.length) : (T.drop k).take 1 = [T.getD k undef] := by
  rw [List.drop_eq_getElem_cons h, List.take_succ_cons, List.take_zero]
  simp [List.getD_eq_getElem?_getD, h]
theorem c22 : (Try.prog).cellsOf 22 = 1 := by kernel_rfl
theorem c24 : (Try.prog).cellsOf 24 = 1 := by kernel_rfl
theorem c4 : (Try.prog).cellsOf 4 = 1 := by kernel_rfl
theorem c44 : (Try.prog).cellsOf 44 = 16 := by kernel_rfl
theorem c46 : (Try.prog).cellsOf 46 = 28 := by kernel_rfl
theorem b5 : (Try.prog).bytesOf 5 = 1 := by kernel_rfl

set_option maxRecDepth 100000 in
set_option maxHeartbeats 4000000 in
theorem open_params {H : Type} {enc : TypeId × Value → H} {w : World} {base : Nat} {v : Value} {d : DataW H} {q : List MemPlace} (o : Value.okWide Try.prog w .any base 46 v)
    (h : DataW.Trod enc Try.prog w 0 (fun _ => true) true 46 v d q) (z : Sized Try.prog 46 d) : ∃ p : PV, v = .agg p.vals ∧ p.ok w ∧ p.O.length ≤ 140737488355328 ∧ p.C.length ≤ 140737488355328 := by
  obtain ⟨cs, rfl, hcs⟩ := WideShapes.okWide_struct Try.underlying46 o
  obtain ⟨fuel, hf⟩ := h
  rw [c46] at hcs
  have hf' : DataW.trod enc Try.prog w 0 (fun _ => true) true fuel 46 cs.toList = some (d, q) := by simpa [Value.cells] using hf
  obtain ⟨xs, n, _, hd, hl, hxl, hfld⟩ := DataW.trod_struct Try.underlying46 hf'
  have hL : cs.toList.length = 28 := by simpa using hcs
  have F : ∀ (i : Nat) (f : Field), (match (Try.prog).underlying 46 with | some (.struct fs) => fs | _ => #[])[i]? = some f → ∃ x, DataW.trod enc Try.prog w 0 (fun _ => true) true n f.type ((cs.toList.drop f.offset).take ((Try.prog).cellsOf f.type)) = some x ∧ Sized Try.prog f.type x.1 := by
    intro i f hi
    have hil : i < xs.length := by rw [hxl]; exact (Array.getElem?_eq_some_iff.1 hi).1
    refine ⟨xs[i], by rw [hfld i f hi, List.getElem?_eq_getElem hil], ?_⟩
    have hd' : d = .agg (xs.map (·.1)) := by cases hd; rfl
    rw [hd'] at z
    exact z.field Try.underlying46 hi (by simp [hil])
  have G : ∀ k, k < 28 → (cs.toList.drop k).take 1 = [cs.toList.getD k undef] := fun k hk => drop_one _ k (by omega)
  obtain ⟨x0, t0, s0⟩ := F 0 _ rfl
  replace t0 : DataW.trod enc Try.prog w 0 (fun _ => true) true n 22 ((cs.toList.drop 0).take ((Try.prog).cellsOf 22)) = some x0 := t0
  rw [c22, G 0 (by omega)] at t0
  obtain ⟨a0, L0, cap0, e0, p0, q0, r0, u0, v0⟩ := open_ints_z Try.underlying22 Try.underlying5 (by kernel_rfl) t0 s0
  rw [b5] at r0
  obtain ⟨x1, t1, s1⟩ := F 1 _ rfl
  replace t1 : DataW.trod enc Try.prog w 0 (fun _ => true) true n 22 ((cs.toList.drop 1).take ((Try.prog).cellsOf 22)) = some x1 := t1
  rw [c22, G 1 (by omega)] at t1
  obtain ⟨a1, L1, cap1, e1, p1, q1, r1, u1, v1⟩ := open_ints_z Try.underlying22 Try.underlying5 (by kernel_rfl) t1 s1
  rw [b5] at r1
  obtain ⟨x2, t2, _⟩ := F 2 _ rfl
  replace t2 : DataW.trod enc Try.prog w 0 (fun _ => true) true n 24 ((cs.toList.drop 2).take ((Try.prog).cellsOf 24)) = some x2 := t2
  rw [c24, G 2 (by omega)] at t2
  obtain ⟨f2, e2, _, w2⟩ := DataW.trod_int Try.underlying24 t2
  obtain ⟨x3, t3, _⟩ := F 3 _ rfl
  replace t3 : DataW.trod enc Try.prog w 0 (fun _ => true) true n 24 ((cs.toList.drop 3).take ((Try.prog).cellsOf 24)) = some x3 := t3
  rw [c24, G 3 (by omega)] at t3
  obtain ⟨f3, e3, _, w3⟩ := DataW.trod_int Try.underlying24 t3
  obtain ⟨x4, t4, _⟩ := F 4 _ rfl
  replace t4 : DataW.trod enc Try.prog w 0 (fun _ => true) true n 24 ((cs.toList.drop 4).take ((Try.prog).cellsOf 24)) = some x4 := t4
  rw [c24, G 4 (by omega)] at t4
  obtain ⟨f4, e4, _, w4⟩ := DataW.trod_int Try.underlying24 t4
  obtain ⟨x5, t5, _⟩ := F 5 _ rfl
  replace t5 : DataW.trod enc Try.prog w 0 (fun _ => true) true n 24 ((cs.toList.drop 5).take ((Try.prog).cellsOf 24)) = some x5 := t5
  rw [c24, G 5 (by omega)] at t5
  obtain ⟨f5, e5, _, w5⟩ := DataW.trod_int Try.underlying24 t5
  obtain ⟨x6, t6, _⟩ := F 6 _ rfl
  replace t6 : DataW.trod enc Try.prog w 0 (fun _ => true) true n 24 ((cs.toList.drop 6).take ((Try.prog).cellsOf 24)) = some x6 := t6
  rw [c24, G 6 (by omega)] at t6
  obtain ⟨f6, e6, _, w6⟩ := DataW.trod_int Try.underlying24 t6
  obtain ⟨x7, t7, _⟩ := F 7 _ rfl
  replace t7 : DataW.trod enc Try.prog w 0 (fun _ => true) true n 24 ((cs.toList.drop 7).take ((Try.prog).cellsOf 24)) = some x7 := t7
  rw [c24, G 7 (by omega)] at t7
  obtain ⟨f7, e7, _, w7⟩ := DataW.trod_int Try.underlying24 t7
  obtain ⟨x8, t8, _⟩ := F 8 _ rfl
  replace t8 : DataW.trod enc Try.prog w 0 (fun _ => true) true n 24 ((cs.toList.drop 8).take ((Try.prog).cellsOf 24)) = some x8 := t8
  rw [c24, G 8 (by omega)] at t8
  obtain ⟨f8, e8, _, w8⟩ := DataW.trod_int Try.underlying24 t8
  obtain ⟨x9, t9, _⟩ := F 9 _ rfl
  replace t9 : DataW.trod enc Try.prog w 0 (fun _ => true) true n 24 ((cs.toList.drop 9).take ((Try.prog).cellsOf 24)) = some x9 := t9
  rw [c24, G 9 (by omega)] at t9
  obtain ⟨f9, e9, _, w9⟩ := DataW.trod_int Try.underlying24 t9
  obtain ⟨x10, t10, _⟩ := F 10 _ rfl
  replace t10 : DataW.trod enc Try.prog w 0 (fun _ => true) true n 24 ((cs.toList.drop 10).take ((Try.prog).cellsOf 24)) = some x10 := t10
  rw [c24, G 10 (by omega)] at t10
  obtain ⟨f10, e10, _, w10⟩ := DataW.trod_int Try.underlying24 t10
  obtain ⟨x11, t11, _⟩ := F 11 _ rfl
  replace t11 : DataW.trod enc Try.prog w 0 (fun _ => true) true n 4 ((cs.toList.drop 11).take ((Try.prog).cellsOf 4)) = some x11 := t11
  rw [c4, G 11 (by omega)] at t11
  obtain ⟨hb, e11, _⟩ := DataW.trod_bool Try.underlying4 t11
  obtain ⟨x12, t12, _⟩ := F 12 _ rfl
  replace t12 : DataW.trod enc Try.prog w 0 (fun _ => true) true n 44 ((cs.toList.drop 12).take ((Try.prog).cellsOf 44)) = some x12 := t12
  rw [c44] at t12
  obtain ⟨ys, m, _, _, hyl, hyn, hyf⟩ := DataW.trod_array Try.underlying44 t12
  have TK : ∀ i, i < 16 → ∃ t : Int, cs.toList.getD (12 + i) undef = .int .u8 t ∧ Var.Byte t := by
    intro i hi
    have h1 := hyf i hi
    rw [tok_cells, Nat.mul_one, List.getElem?_eq_getElem (by omega : i < ys.length)] at h1
    have e : ((((cs.toList.drop 12).take 16).drop i).take 1) = [cs.toList.getD (12 + i) undef] := by
      rw [drop_one _ i (by simp; omega)]
      congr 1
      simp only [List.getD_eq_getElem?_getD]
      rw [List.getElem?_take_of_lt hi, List.getElem?_drop]
    rw [e] at h1
    obtain ⟨t, h2, _, h3⟩ := DataW.trod_int Try.underlying5 h1
    exact ⟨t, (List.cons.inj h2).1, bounds_u8 h3⟩
  obtain ⟨k0, g0, m0⟩ := TK 0 (by omega)
  obtain ⟨k1, g1, m1⟩ := TK 1 (by omega)
  obtain ⟨k2, g2, m2⟩ := TK 2 (by omega)
  obtain ⟨k3, g3, m3⟩ := TK 3 (by omega)
  obtain ⟨k4, g4, m4⟩ := TK 4 (by omega)
  obtain ⟨k5, g5, m5⟩ := TK 5 (by omega)
  obtain ⟨k6, g6, m6⟩ := TK 6 (by omega)
  obtain ⟨k7, g7, m7⟩ := TK 7 (by omega)
  obtain ⟨k8, g8, m8⟩ := TK 8 (by omega)
  obtain ⟨k9, g9, m9⟩ := TK 9 (by omega)
  obtain ⟨k10, g10, m10⟩ := TK 10 (by omega)
  obtain ⟨k11, g11, m11⟩ := TK 11 (by omega)
  obtain ⟨k12, g12, m12⟩ := TK 12 (by omega)
  obtain ⟨k13, g13, m13⟩ := TK 13 (by omega)
  obtain ⟨k14, g14, m14⟩ := TK 14 (by omega)
  obtain ⟨k15, g15, m15⟩ := TK 15 (by omega)
  refine ⟨⟨a0, cap0, L0, a1, cap1, L1, f2, f3, f4, f5, f6, f7, f8, f9, f10, hb, k0, k1, k2, k3, k4, k5, k6, k7, k8, k9, k10, k11, k12, k13, k14, k15⟩, ?_, ⟨⟨v0, u0, p0, q0⟩, ⟨v1, u1, p1, q1⟩, fun k => ?_, ?_⟩, ?_, ?_⟩
  · congr 1
    apply Array.toList_inj.1
    rw [list28 _ hL]
    simp only [List.cons.injEq, and_true] at e2 e3 e4 e5 e6 e7 e8 e9 e10 e11
    rw [e0, e1, e2, e3, e4, e5, e6, e7, e8, e9, e10, e11, g0, g1, g2, g3, g4, g5, g6, g7, g8, g9, g10, g11, g12, g13, g14, g15]
    rfl
  · unfold PV.num
    split <;> first | exact ⟨Int.le_refl _, by omega⟩ | exact bounds_u64 (by assumption)
  · intro x hx
    simp only [PV.tok, List.mem_cons, List.not_mem_nil, or_false] at hx
    rcases hx with rfl | rfl | rfl | rfl | rfl | rfl | rfl | rfl | rfl | rfl | rfl | rfl | rfl | rfl | rfl | rfl <;> assumption
  · show L0.length ≤ _
    unfold reachBytes at r0; omega
  · show L1.length ≤ _
    unfold reachBytes at r1; omega

set_option maxRecDepth 100000 in
theorem walk_ParamAppends (H : Type) (enc : TypeId × Value → H) (w : World) (base : Nat) (v0 : Value) (d0 : DataW H) (p0 : List MemPlace) (v1 : Value) (d1 : DataW H) (p1 : List MemPlace)
    (o0 : Value.okWide Try.prog w .any base 22 v0) (h0 : DataW.Trod enc Try.prog w 0 (fun _ => true) true 22 v0 d0 p0)
    (o1 : Value.okWide Try.prog w .any base 46 v1) (h1 : DataW.Trod enc Try.prog w 0 (fun _ => true) true 46 v1 d1 p1)
    (z0 : Sized Try.prog 22 d0) (z1 : Sized Try.prog 46 d1) :
    Calls Try.prog 6 #[v0, v1] w fun e w' => e = .returned (.bool true) ∧ Below w.heap.size w w' := by
  obtain ⟨a, L, cap, rfl, hS⟩ := open_sl Try.underlying22 Try.underlying5 (by kernel_rfl) o0 h0
  obtain ⟨fuel, hf⟩ := h0
  obtain ⟨a', L', cap', e', p', q', r', u', v'⟩ := open_ints_z Try.underlying22 Try.underlying5 (by kernel_rfl) hf z0
  have hl : L.length = L'.length := by simp only [Value.slice.injEq] at e'; exact e'.2.1
  rw [b5] at r'
  obtain ⟨p, rfl, hp, hO, hC⟩ := open_params o1 h1 z1
  exact pappends_law a cap L p w hS hp (by unfold reachBytes at r'; omega) hO hC

end Par
end Go.Proofs.Ytjeolfnmheofeaa
