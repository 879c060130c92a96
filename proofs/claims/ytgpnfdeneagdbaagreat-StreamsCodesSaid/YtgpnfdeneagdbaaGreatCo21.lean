/- Streams: the arguments. -/
import Derived.Test.YtgpnfdeneagdbaaGreatCo20
import Derived.Test.YtgpnfdeneagdbaaGreatArgs
namespace Go.Proofs.YtgpnfdeneagdbaaGreat
open Go.RowKit
set_option linter.unusedVariables false
section
variable {H : Type} {enc : TypeId × Value → H} {w : World} {base : Nat} {v : Value} {d : DataW H} {p : List MemPlace}
theorem qf_fr : (Tryz.prog).cellsOf 45 = 30 := by kernel_rfl
theorem qf_pa : (Tryz.prog).cellsOf 27 = 28 := by kernel_rfl
theorem qf_rs : (Tryz.prog).cellsOf 42 = 1 := by kernel_rfl
theorem qf_8 : (Tryz.prog).cellsOf 5 = 1 := by kernel_rfl
theorem qf_64 : (Tryz.prog).cellsOf 23 = 1 := by kernel_rfl
theorem qf_bo : (Tryz.prog).cellsOf 4 = 1 := by kernel_rfl
theorem qf_b : (Tryz.prog).cellsOf 22 = 1 := by kernel_rfl
theorem qf_tk : (Tryz.prog).cellsOf 25 = 16 := by kernel_rfl
theorem qf_3 : (Tryz.prog).cellsOf 43 = 3 := by kernel_rfl
theorem one_slice {t e : TypeId} {fuel : Nat} {u : Value} {x : DataW H × List MemPlace} (ht : Tryz.prog.underlying t = some (.slice e)) (h : DataW.trod enc Tryz.prog w 0 (fun _ => true) true fuel t [u] = some x) : u.oneCell' = true := by
  rcases Deep.open_slice ht h with ⟨hcs, _⟩ | ⟨x, l, c, m, n, D, Pl, hcs, _⟩
  · cases hcs; rfl
  · cases hcs; rfl
theorem one_u64 {fuel : Nat} {u : Value} {x : DataW H × List MemPlace} (h : DataW.trod enc Tryz.prog w 0 (fun _ => true) true fuel 23 [u] = some x) : ∃ n : Nat, u = .int .u64 n ∧ n < 18446744073709551616 := by
  obtain ⟨f, e, _, wf⟩ := DataW.trod_int Tryz.underlying23 h
  have hb := bounds_u64 wf
  obtain ⟨n, rfl⟩ := Int.eq_ofNat_of_zero_le hb.1
  exact ⟨n, (List.cons.inj e).1, by have := hb.2; omega⟩
theorem one_bool {fuel : Nat} {u : Value} {x : DataW H × List MemPlace} (h : DataW.trod enc Tryz.prog w 0 (fun _ => true) true fuel 4 [u] = some x) : ∃ b, u = .bool b := by
  obtain ⟨b, e, _⟩ := DataW.trod_bool Tryz.underlying4 h
  exact ⟨b, (List.cons.inj e).1⟩
theorem one_arr {t e : TypeId} {k : IntKind} {m fuel : Nat} {cs : List Value} {y : DataW H × List MemPlace} (ht : Tryz.prog.underlying t = some (.array m e)) (he : Tryz.prog.underlying e = some (.int k)) (hc : Tryz.prog.cellsOf e = 1) (hl : cs.length = m)
    (h : DataW.trod enc Tryz.prog w 0 (fun _ => true) true fuel t cs = some y) : ∀ i, i < m → (cs.getD i undef).oneCell' = true := by
  obtain ⟨ys, m', _, _, hyl, hyn, hyf⟩ := DataW.trod_array ht h
  intro i hi
  have h1 := hyf i hi
  rw [hc, Nat.mul_one, List.getElem?_eq_getElem (by omega : i < ys.length)] at h1
  rw [Deep.take1_drop _ _ undef (by omega)] at h1
  obtain ⟨t, h2, _, h3⟩ := DataW.trod_int he h1
  rw [(List.cons.inj h2).1]; rfl
theorem getD_cut (cs : List Value) (k n i : Nat) (h : i < n) (hl : k + n ≤ cs.length) : ((cs.drop k).take n).getD i undef = cs.getD (k + i) undef := by
  rw [List.getD_eq_getElem?_getD, List.getD_eq_getElem?_getD, List.getElem?_take_of_lt h, List.getElem?_drop]
theorem getD_some {cs : List Value} {k : Nat} {u : Value} (h : cs.getD k undef = u) (hl : k < cs.length) : cs[k]? = some u := by
  rw [List.getElem?_eq_getElem hl, ← h]; simp [List.getD_eq_getElem?_getD, hl]
/-- A frame that came in. -/
structure FrW (cs : List Value) (kd id mx : Nat) : Prop where
  len : cs.length = 30
  one : ∀ u ∈ cs, u.oneCell' = true
  k : cs[0]? = some (.int .u64 kd)
  i : cs[1]? = some (.int .u64 id)
  m : cs[3]? = some (.int .u64 mx)
  lk : kd < 18446744073709551616
  li : id < 18446744073709551616
  lm : mx < 18446744073709551616
theorem FrW.cut {cs : List Value} {kd id mx : Nat} (h : FrW cs kd id mx) : FrC (((cs.set 7 (.slice none 0 0)).set 2 (.int .u64 (0 : Nat))).set 6 (.bool false)) kd id mx := by
  have hl := h.len
  refine ⟨by simp [hl], fun u hu => ?_, ?_, ?_, ?_, ?_, ?_, ?_⟩
  · rcases List.mem_or_eq_of_mem_set hu with hu | rfl
    · rcases List.mem_or_eq_of_mem_set hu with hu | rfl
      · rcases List.mem_or_eq_of_mem_set hu with hu | rfl
        · exact h.one u hu
        · rfl
      · rfl
    · rfl
  · simp [List.getElem?_set_ne, h.k]
  · simp [List.getElem?_set_ne, h.i]
  · simp [hl]
  · simp [List.getElem?_set_ne, h.m]
  · simp [hl]
  · simp [hl]
/-- Parameters that came in. -/
structure PaW (cs : List Value) (q : Nat → Nat) : Prop where
  len : cs.length = 28
  one : ∀ u ∈ cs, u.oneCell' = true
  c : ∀ k, 2 ≤ k → k < 11 → cs[k]? = some (.int .u64 (q k : Nat)) ∧ q k < 18446744073709551616
set_option maxRecDepth 100000 in
set_option maxHeartbeats 4000000 in
theorem open_fr0 {fuel : Nat} {cs : List Value} {y : DataW H × List MemPlace} (hl : cs.length = 30) (ht' : DataW.trod enc Tryz.prog w 0 (fun _ => true) true fuel 45 cs = some y) : ∃ kd id mx, FrW cs kd id mx := by
  obtain ⟨xs, n', _, hy, _, hxl, hfld⟩ := DataW.trod_struct Tryz.underlying45 ht'
  have F : ∀ (i : Nat) (f : Field), (match (Tryz.prog).underlying 45 with | some (.struct fs) => fs | _ => #[])[i]? = some f → ∃ x, DataW.trod enc Tryz.prog w 0 (fun _ => true) true n' f.type ((cs.drop f.offset).take ((Tryz.prog).cellsOf f.type)) = some x := by
    intro i f hi
    have hil : i < xs.length := by rw [hxl]; exact (Array.getElem?_eq_some_iff.1 hi).1
    exact ⟨xs[i], by rw [hfld i f hi, List.getElem?_eq_getElem hil]⟩
  have G : ∀ k, k < 30 → (cs.drop k).take 1 = [cs.getD k undef] := fun k hk => Deep.take1_drop cs k undef (by omega)
  obtain ⟨x0, t0⟩ := F 0 _ rfl
  replace t0 : DataW.trod enc Tryz.prog w 0 (fun _ => true) true n' 23 ((cs.drop 0).take ((Tryz.prog).cellsOf 23)) = some x0 := t0
  rw [qf_64, G 0 (by omega)] at t0
  obtain ⟨f0, e0, l0⟩ := one_u64 t0
  obtain ⟨x1, t1⟩ := F 1 _ rfl
  replace t1 : DataW.trod enc Tryz.prog w 0 (fun _ => true) true n' 23 ((cs.drop 1).take ((Tryz.prog).cellsOf 23)) = some x1 := t1
  rw [qf_64, G 1 (by omega)] at t1
  obtain ⟨f1, e1, l1⟩ := one_u64 t1
  obtain ⟨x2, t2⟩ := F 2 _ rfl
  replace t2 : DataW.trod enc Tryz.prog w 0 (fun _ => true) true n' 23 ((cs.drop 2).take ((Tryz.prog).cellsOf 23)) = some x2 := t2
  rw [qf_64, G 2 (by omega)] at t2
  obtain ⟨f2, e2, l2⟩ := one_u64 t2
  obtain ⟨x3, t3⟩ := F 3 _ rfl
  replace t3 : DataW.trod enc Tryz.prog w 0 (fun _ => true) true n' 23 ((cs.drop 3).take ((Tryz.prog).cellsOf 23)) = some x3 := t3
  rw [qf_64, G 3 (by omega)] at t3
  obtain ⟨f3, e3, l3⟩ := one_u64 t3
  obtain ⟨x4, t4⟩ := F 4 _ rfl
  replace t4 : DataW.trod enc Tryz.prog w 0 (fun _ => true) true n' 23 ((cs.drop 4).take ((Tryz.prog).cellsOf 23)) = some x4 := t4
  rw [qf_64, G 4 (by omega)] at t4
  obtain ⟨f4, e4, l4⟩ := one_u64 t4
  obtain ⟨x5, t5⟩ := F 5 _ rfl
  replace t5 : DataW.trod enc Tryz.prog w 0 (fun _ => true) true n' 23 ((cs.drop 5).take ((Tryz.prog).cellsOf 23)) = some x5 := t5
  rw [qf_64, G 5 (by omega)] at t5
  obtain ⟨f5, e5, l5⟩ := one_u64 t5
  obtain ⟨x6, t6⟩ := F 6 _ rfl
  replace t6 : DataW.trod enc Tryz.prog w 0 (fun _ => true) true n' 4 ((cs.drop 6).take ((Tryz.prog).cellsOf 4)) = some x6 := t6
  rw [qf_bo, G 6 (by omega)] at t6
  obtain ⟨f6, e6⟩ := one_bool t6
  obtain ⟨x7, t7⟩ := F 7 _ rfl
  replace t7 : DataW.trod enc Tryz.prog w 0 (fun _ => true) true n' 22 ((cs.drop 7).take ((Tryz.prog).cellsOf 22)) = some x7 := t7
  rw [qf_b, G 7 (by omega)] at t7
  have e7 := one_slice Tryz.underlying22 t7
  obtain ⟨x8, t8⟩ := F 8 _ rfl
  replace t8 : DataW.trod enc Tryz.prog w 0 (fun _ => true) true n' 22 ((cs.drop 8).take ((Tryz.prog).cellsOf 22)) = some x8 := t8
  rw [qf_b, G 8 (by omega)] at t8
  have e8 := one_slice Tryz.underlying22 t8
  obtain ⟨x9, t9⟩ := F 9 _ rfl
  replace t9 : DataW.trod enc Tryz.prog w 0 (fun _ => true) true n' 25 ((cs.drop 9).take ((Tryz.prog).cellsOf 25)) = some x9 := t9
  rw [qf_tk] at t9
  have e9 := one_arr Tryz.underlying25 Tryz.underlying5 qf_8 (by simp; omega) t9
  obtain ⟨x10, t10⟩ := F 10 _ rfl
  replace t10 : DataW.trod enc Tryz.prog w 0 (fun _ => true) true n' 42 ((cs.drop 25).take ((Tryz.prog).cellsOf 42)) = some x10 := t10
  rw [qf_rs, G 25 (by omega)] at t10
  have e10 := one_slice Tryz.underlying42 t10
  obtain ⟨x11, t11⟩ := F 11 _ rfl
  replace t11 : DataW.trod enc Tryz.prog w 0 (fun _ => true) true n' 23 ((cs.drop 26).take ((Tryz.prog).cellsOf 23)) = some x11 := t11
  rw [qf_64, G 26 (by omega)] at t11
  obtain ⟨f11, e11, l11⟩ := one_u64 t11
  obtain ⟨x12, t12⟩ := F 12 _ rfl
  replace t12 : DataW.trod enc Tryz.prog w 0 (fun _ => true) true n' 43 ((cs.drop 27).take ((Tryz.prog).cellsOf 43)) = some x12 := t12
  rw [qf_3] at t12
  have e12 := one_arr Tryz.underlying43 Tryz.underlying23 qf_64 (by simp; omega) t12
  refine ⟨f0, f1, f3, hl, fun u hu => ?_, getD_some e0 (by omega), getD_some e1 (by omega), getD_some e3 (by omega), l0, l1, l3⟩
  obtain ⟨i, hi, rfl⟩ := List.getElem_of_mem hu
  have hg : cs[i] = cs.getD i undef := by simp [List.getD_eq_getElem?_getD, hi]
  rw [hg]
  by_cases h9 : i < 9
  · rcases (by omega : i = 0 ∨ i = 1 ∨ i = 2 ∨ i = 3 ∨ i = 4 ∨ i = 5 ∨ i = 6 ∨ i = 7 ∨ i = 8) with rfl | rfl | rfl | rfl | rfl | rfl | rfl | rfl | rfl
    · rw [e0]; rfl
    · rw [e1]; rfl
    · rw [e2]; rfl
    · rw [e3]; rfl
    · rw [e4]; rfl
    · rw [e5]; rfl
    · rw [e6]; rfl
    · exact e7
    · exact e8
  · by_cases h25 : i < 25
    · have := e9 (i - 9) (by omega)
      rw [getD_cut cs 9 16 (i - 9) (by omega) (by omega), show 9 + (i - 9) = i by omega] at this
      exact this
    · rcases (by omega : i = 25 ∨ i = 26 ∨ 27 ≤ i) with rfl | rfl | h27
      · exact e10
      · rw [e11]; rfl
      · have := e12 (i - 27) (by omega)
        rw [getD_cut cs 27 3 (i - 27) (by omega) (by omega), show 27 + (i - 27) = i by omega] at this
        exact this
set_option maxRecDepth 100000 in
set_option maxHeartbeats 4000000 in
theorem open_pa0 {fuel : Nat} {cs : List Value} {y : DataW H × List MemPlace} (hl : cs.length = 28) (ht' : DataW.trod enc Tryz.prog w 0 (fun _ => true) true fuel 27 cs = some y) : ∃ q, PaW cs q := by
  obtain ⟨xs, n', _, hy, _, hxl, hfld⟩ := DataW.trod_struct Tryz.underlying27 ht'
  have F : ∀ (i : Nat) (f : Field), (match (Tryz.prog).underlying 27 with | some (.struct fs) => fs | _ => #[])[i]? = some f → ∃ x, DataW.trod enc Tryz.prog w 0 (fun _ => true) true n' f.type ((cs.drop f.offset).take ((Tryz.prog).cellsOf f.type)) = some x := by
    intro i f hi
    have hil : i < xs.length := by rw [hxl]; exact (Array.getElem?_eq_some_iff.1 hi).1
    exact ⟨xs[i], by rw [hfld i f hi, List.getElem?_eq_getElem hil]⟩
  have G : ∀ k, k < 28 → (cs.drop k).take 1 = [cs.getD k undef] := fun k hk => Deep.take1_drop cs k undef (by omega)
  obtain ⟨x0, t0⟩ := F 0 _ rfl
  replace t0 : DataW.trod enc Tryz.prog w 0 (fun _ => true) true n' 22 ((cs.drop 0).take ((Tryz.prog).cellsOf 22)) = some x0 := t0
  rw [qf_b, G 0 (by omega)] at t0
  have e0 := one_slice Tryz.underlying22 t0
  obtain ⟨x1, t1⟩ := F 1 _ rfl
  replace t1 : DataW.trod enc Tryz.prog w 0 (fun _ => true) true n' 22 ((cs.drop 1).take ((Tryz.prog).cellsOf 22)) = some x1 := t1
  rw [qf_b, G 1 (by omega)] at t1
  have e1 := one_slice Tryz.underlying22 t1
  obtain ⟨x2, t2⟩ := F 2 _ rfl
  replace t2 : DataW.trod enc Tryz.prog w 0 (fun _ => true) true n' 23 ((cs.drop 2).take ((Tryz.prog).cellsOf 23)) = some x2 := t2
  rw [qf_64, G 2 (by omega)] at t2
  obtain ⟨f2, e2, l2⟩ := one_u64 t2
  obtain ⟨x3, t3⟩ := F 3 _ rfl
  replace t3 : DataW.trod enc Tryz.prog w 0 (fun _ => true) true n' 23 ((cs.drop 3).take ((Tryz.prog).cellsOf 23)) = some x3 := t3
  rw [qf_64, G 3 (by omega)] at t3
  obtain ⟨f3, e3, l3⟩ := one_u64 t3
  obtain ⟨x4, t4⟩ := F 4 _ rfl
  replace t4 : DataW.trod enc Tryz.prog w 0 (fun _ => true) true n' 23 ((cs.drop 4).take ((Tryz.prog).cellsOf 23)) = some x4 := t4
  rw [qf_64, G 4 (by omega)] at t4
  obtain ⟨f4, e4, l4⟩ := one_u64 t4
  obtain ⟨x5, t5⟩ := F 5 _ rfl
  replace t5 : DataW.trod enc Tryz.prog w 0 (fun _ => true) true n' 23 ((cs.drop 5).take ((Tryz.prog).cellsOf 23)) = some x5 := t5
  rw [qf_64, G 5 (by omega)] at t5
  obtain ⟨f5, e5, l5⟩ := one_u64 t5
  obtain ⟨x6, t6⟩ := F 6 _ rfl
  replace t6 : DataW.trod enc Tryz.prog w 0 (fun _ => true) true n' 23 ((cs.drop 6).take ((Tryz.prog).cellsOf 23)) = some x6 := t6
  rw [qf_64, G 6 (by omega)] at t6
  obtain ⟨f6, e6, l6⟩ := one_u64 t6
  obtain ⟨x7, t7⟩ := F 7 _ rfl
  replace t7 : DataW.trod enc Tryz.prog w 0 (fun _ => true) true n' 23 ((cs.drop 7).take ((Tryz.prog).cellsOf 23)) = some x7 := t7
  rw [qf_64, G 7 (by omega)] at t7
  obtain ⟨f7, e7, l7⟩ := one_u64 t7
  obtain ⟨x8, t8⟩ := F 8 _ rfl
  replace t8 : DataW.trod enc Tryz.prog w 0 (fun _ => true) true n' 23 ((cs.drop 8).take ((Tryz.prog).cellsOf 23)) = some x8 := t8
  rw [qf_64, G 8 (by omega)] at t8
  obtain ⟨f8, e8, l8⟩ := one_u64 t8
  obtain ⟨x9, t9⟩ := F 9 _ rfl
  replace t9 : DataW.trod enc Tryz.prog w 0 (fun _ => true) true n' 23 ((cs.drop 9).take ((Tryz.prog).cellsOf 23)) = some x9 := t9
  rw [qf_64, G 9 (by omega)] at t9
  obtain ⟨f9, e9, l9⟩ := one_u64 t9
  obtain ⟨x10, t10⟩ := F 10 _ rfl
  replace t10 : DataW.trod enc Tryz.prog w 0 (fun _ => true) true n' 23 ((cs.drop 10).take ((Tryz.prog).cellsOf 23)) = some x10 := t10
  rw [qf_64, G 10 (by omega)] at t10
  obtain ⟨f10, e10, l10⟩ := one_u64 t10
  obtain ⟨x11, t11⟩ := F 11 _ rfl
  replace t11 : DataW.trod enc Tryz.prog w 0 (fun _ => true) true n' 4 ((cs.drop 11).take ((Tryz.prog).cellsOf 4)) = some x11 := t11
  rw [qf_bo, G 11 (by omega)] at t11
  obtain ⟨f11, e11⟩ := one_bool t11
  obtain ⟨x12, t12⟩ := F 12 _ rfl
  replace t12 : DataW.trod enc Tryz.prog w 0 (fun _ => true) true n' 25 ((cs.drop 12).take ((Tryz.prog).cellsOf 25)) = some x12 := t12
  rw [qf_tk] at t12
  have e12 := one_arr Tryz.underlying25 Tryz.underlying5 qf_8 (by simp; omega) t12
  refine ⟨fun k => [0, 0, f2, f3, f4, f5, f6, f7, f8, f9, f10].getD k 0, hl, fun u hu => ?_, fun k h2 h11 => ?_⟩
  · obtain ⟨i, hi, rfl⟩ := List.getElem_of_mem hu
    have hg : cs[i] = cs.getD i undef := by simp [List.getD_eq_getElem?_getD, hi]
    rw [hg]
    by_cases h12 : i < 12
    · rcases (by omega : i = 0 ∨ i = 1 ∨ i = 2 ∨ i = 3 ∨ i = 4 ∨ i = 5 ∨ i = 6 ∨ i = 7 ∨ i = 8 ∨ i = 9 ∨ i = 10 ∨ i = 11) with rfl | rfl | rfl | rfl | rfl | rfl | rfl | rfl | rfl | rfl | rfl | rfl
      · exact e0
      · exact e1
      · rw [e2]; rfl
      · rw [e3]; rfl
      · rw [e4]; rfl
      · rw [e5]; rfl
      · rw [e6]; rfl
      · rw [e7]; rfl
      · rw [e8]; rfl
      · rw [e9]; rfl
      · rw [e10]; rfl
      · rw [e11]; rfl
    · have := e12 (i - 12) (by omega)
      rw [getD_cut cs 12 16 (i - 12) (by omega) (by omega), show 12 + (i - 12) = i by omega] at this
      exact this
  · rcases (by omega : k = 2 ∨ k = 3 ∨ k = 4 ∨ k = 5 ∨ k = 6 ∨ k = 7 ∨ k = 8 ∨ k = 9 ∨ k = 10) with rfl | rfl | rfl | rfl | rfl | rfl | rfl | rfl | rfl
    · exact ⟨getD_some e2 (by omega), l2⟩
    · exact ⟨getD_some e3 (by omega), l3⟩
    · exact ⟨getD_some e4 (by omega), l4⟩
    · exact ⟨getD_some e5 (by omega), l5⟩
    · exact ⟨getD_some e6 (by omega), l6⟩
    · exact ⟨getD_some e7 (by omega), l7⟩
    · exact ⟨getD_some e8 (by omega), l8⟩
    · exact ⟨getD_some e9 (by omega), l9⟩
    · exact ⟨getD_some e10 (by omega), l10⟩
set_option maxRecDepth 100000 in
theorem open_params0 (o : Value.okWide Tryz.prog w .any base 27 v) (h : DataW.Trod enc Tryz.prog w 0 (fun _ => true) true 27 v d p) : ∃ (cs : List Value) (q : Nat → Nat), v = .agg cs.toArray ∧ PaW cs q := by
  obtain ⟨cs, rfl, hcs⟩ := WideShapes.okWide_struct Tryz.underlying27 o
  obtain ⟨fuel, hf⟩ := h
  rw [qf_pa] at hcs
  have hf' : DataW.trod enc Tryz.prog w 0 (fun _ => true) true fuel 27 cs.toList = some (d, p) := by simpa [Value.cells] using hf
  obtain ⟨q, hq⟩ := open_pa0 (by simpa using hcs) hf'
  exact ⟨cs.toList, q, by simp, hq⟩
/-- A slice's elements, by their cells. -/
def ElAt (w : World) (a : Option Addr) (n size : Nat) (R : Nat → List Value → Prop) : Prop :=
  ∀ i, i < n → ∃ b off cs, a = some ⟨b, off, none⟩ ∧ b < w.heap.size ∧ cs.length = size ∧ (∀ j u, cs[j]? = some u → w.cell? ⟨b, off + i * size + j, none⟩ = some u) ∧ R i cs
theorem ElAt.below {w w' : World} {a : Option Addr} {n size : Nat} {R : Nat → List Value → Prop} (h : ElAt w a n size R) (hb : Below w.heap.size w w') : ElAt w' a n size R := fun i hi => by
  obtain ⟨b, off, cs, h1, h2, h3, h4, h5⟩ := h i hi
  exact ⟨b, off, cs, h1, Nat.lt_of_lt_of_le h2 hb.size, h3, fun j u hj => (hb.cell (p := ⟨b, _, none⟩) h2).trans (h4 j u hj), h5⟩
set_option maxRecDepth 100000 in
theorem open_el {t e : TypeId} {size fuel : Nat} {cs : List Value} {R : List Value → Prop} (ht : Tryz.prog.underlying t = some (.slice e)) (hC : Tryz.prog.cellsOf e = size) (hpos : 0 < size)
    (conv : ∀ (n : Nat) (cs : List Value) (y : DataW H × List MemPlace), cs.length = size → DataW.trod enc Tryz.prog w 0 (fun _ => true) true n e cs = some y → R cs)
    (h : DataW.trod enc Tryz.prog w 0 (fun _ => true) true fuel t cs = some (d, p)) : ∃ a n cap, cs = [.slice a n cap] ∧ n ≤ maxLen ∧ ElAt w a n size (fun _ => R) := by
  rcases Deep.open_slice ht h with ⟨hcs, _⟩ | ⟨x, l, c, m, n, D, Pl, hcs, _, hl, hm, hmm, hx, hall⟩
  · subst hcs
    exact ⟨none, 0, 0, rfl, by simp, fun i hi => by omega⟩
  · subst hcs
    simp only [if_true] at hmm
    obtain rfl : m = c := by simpa using hmm
    obtain ⟨b, off, spot⟩ := x
    refine ⟨_, l, m, rfl, by omega, fun i hi => ?_⟩
    obtain ⟨cs', h1, h2⟩ := hall i (by omega)
    obtain ⟨_, hlen, hcell⟩ := World.cells?_some h1
    rw [hC] at hlen hcell
    have hspot : spot = none := by
      obtain ⟨cs0, g1, _⟩ := hall 0 (by omega)
      obtain ⟨_, hlen0, hcell0⟩ := World.cells?_some g1
      rw [hC] at hlen0 hcell0
      have := hcell0 0 hpos
      rw [List.getElem?_eq_getElem (by omega)] at this
      have := World.cell?_spot this
      simpa [Addr.add] using this
    subst hspot
    have g : ∀ j v', cs'[j]? = some v' → w.cell? ⟨b, off + i * size + j, none⟩ = some v' := by
      intro j v' hj
      have hjl : j < size := by have := (List.getElem?_eq_some_iff.1 hj).1; omega
      have := hcell j hjl
      rw [hj, addr_add, addr_add] at this
      exact this
    refine ⟨b, off, cs', rfl, ?_, hlen, g, conv n cs' _ hlen h2⟩
    have := g 0 (cs'[0]'(by omega)) (by simp)
    exact World.block_lt_of_cell? w _ this
set_option maxRecDepth 100000 in
theorem open_frames0 (o : Value.okWide Tryz.prog w .any base 29 v) (h : DataW.Trod enc Tryz.prog w 0 (fun _ => true) true 29 v d p) :
    ∃ (a : Option Addr) (n cap : Nat), v = .slice a n cap ∧ n ≤ maxLen ∧ ElAt w a n 30 (fun _ cs => ∃ kd id mx, FrW cs kd id mx) := by
  obtain ⟨a0, len, cap0, rfl⟩ := WideShapes.okWide_slice Tryz.underlying29 o
  obtain ⟨fuel, hf⟩ := h
  have hf' : DataW.trod enc Tryz.prog w 0 (fun _ => true) true fuel 29 [.slice a0 len cap0] = some (d, p) := by simpa [Value.cells] using hf
  obtain ⟨a, n, cap, hcs, h1, h2⟩ := open_el (R := fun cs => ∃ kd id mx, FrW cs kd id mx) Tryz.underlying29 qf_fr (by omega) (fun n cs y hl ht' => open_fr0 hl ht') hf'
  cases hcs
  exact ⟨_, _, _, rfl, h1, h2⟩
set_option maxRecDepth 100000 in
theorem open_bools0 (o : Value.okWide Tryz.prog w .any base 28 v) (h : DataW.Trod enc Tryz.prog w 0 (fun _ => true) true 28 v d p) :
    ∃ (a : Option Addr) (n cap : Nat), v = .slice a n cap ∧ n ≤ maxLen ∧ ElAt w a n 1 (fun _ cs => ∃ b, cs = [.bool b]) := by
  obtain ⟨a0, len, cap0, rfl⟩ := WideShapes.okWide_slice Tryz.underlying28 o
  obtain ⟨fuel, hf⟩ := h
  have hf' : DataW.trod enc Tryz.prog w 0 (fun _ => true) true fuel 28 [.slice a0 len cap0] = some (d, p) := by simpa [Value.cells] using hf
  obtain ⟨a, n, cap, hcs, h1, h2⟩ := open_el (R := fun cs => ∃ b, cs = [.bool b]) Tryz.underlying28 qf_bo (by omega) (fun n cs y hl ht' => by
    match cs, hl with
    | [c], _ =>
      obtain ⟨b, e⟩ := one_bool ht'
      exact ⟨b, by rw [e]⟩) hf'
  cases hcs
  exact ⟨_, _, _, rfl, h1, h2⟩
end
end Go.Proofs.YtgpnfdeneagdbaaGreat
