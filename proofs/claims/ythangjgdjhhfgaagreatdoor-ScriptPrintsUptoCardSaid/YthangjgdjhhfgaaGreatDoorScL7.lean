/- Moves that came in as an argument. -/
import Derived.Test.YthangjgdjhhfgaaGreatDoorScL6
import Derived.Test.YthangjgdjhhfgaaGreatDoorArgs
namespace Go.Proofs.YthangjgdjhhfgaaGreatDoor
open Go.RowKit
set_option linter.unusedVariables false
section
variable {H : Type} {enc : TypeId × Value → H} {w : World} {base : Nat} {v : Value} {d : DataW H} {p : List MemPlace}
theorem qm_mv : (Tryz.prog).cellsOf 35 = 9 := by kernel_rfl
theorem qm_dg : (Tryz.prog).cellsOf 33 = 3 := by kernel_rfl
theorem qm_8 : (Tryz.prog).cellsOf 5 = 1 := by kernel_rfl
theorem qm_i : (Tryz.prog).cellsOf 3 = 1 := by kernel_rfl
theorem qm_64 : (Tryz.prog).cellsOf 29 = 1 := by kernel_rfl
theorem qm_b : (Tryz.prog).cellsOf 30 = 1 := by kernel_rfl
theorem ym_8 : 1 ≤ (Tryz.prog).bytesOf 5 := of_decide_eq_true (by kernel_rfl)
theorem ym_mv : 1 ≤ (Tryz.prog).bytesOf 35 := of_decide_eq_true (by kernel_rfl)
theorem le_reach {a b n : Nat} (h1 : a ≤ b) (h2 : 1 ≤ n) (h3 : b * n ≤ reachBytes) : a ≤ 140737488355328 := by
  have h4 : b * 1 ≤ b * n := Nat.mul_le_mul_left b h2
  unfold reachBytes at h3
  omega
theorem open_br {fuel : Nat} {v : Value} {z : DataW H × List MemPlace} (h : DataW.trod enc Tryz.prog w 0 (fun _ => true) true fuel 30 [v] = some z) (hz : Sized Tryz.prog 30 z.1) :
    ∃ a n cap l, v = .slice a n cap ∧ BR w a n l ∧ l.length ≤ 140737488355328 := by
  obtain ⟨a, L, cap, rfl, h1, h2, h3, h4, h5⟩ := open_ints_z Tryz.underlying30 Tryz.underlying5 qm_8 h hz
  have hL : i8 (L.map fun n => UInt8.ofNat n.toNat) = L := by
    unfold i8
    rw [List.map_map]
    refine (List.map_congr_left (fun n hn => ?_)).trans (List.map_id L)
    have := bounds_u8 (h5.wf n hn)
    show ((UInt8.ofNat n.toNat).toNat : Int) = n
    rw [UInt8.toNat_ofNat']
    omega
  exact ⟨a, L.length, cap, L.map fun n => UInt8.ofNat n.toNat, rfl, ⟨by rw [hL]; exact h5, by simp⟩, by rw [List.length_map]; exact le_reach h1 ym_8 h3⟩
def MvIn (w : World) (q : Mv) (cs : List Value) : Prop := ∃ aB nB cB aD nD cD, cs = (mvCs q (.slice aB nB cB) (.slice aD nD cD)).toList ∧ BR w aB nB q.b ∧ BR w aD nD q.d ∧ MvOk q ∧ q.b.length ≤ 140737488355328 ∧ q.d.length ≤ 140737488355328
set_option maxRecDepth 100000 in
set_option maxHeartbeats 4000000 in
theorem open_moves (o : Value.okWide Tryz.prog w .any base 22 v) (h : DataW.Trod enc Tryz.prog w 0 (fun _ => true) true 22 v d p) (z : Sized Tryz.prog 22 d) :
    ∃ (a : Option Addr) (L : List Mv) (cap : Nat), v = .slice a L.length cap ∧ MsR w a L ∧ L.length ≤ 140737488355328 ∧ ∀ m ∈ L, MvOk m ∧ m.b.length ≤ 140737488355328 ∧ m.d.length ≤ 140737488355328 := by
  obtain ⟨a0, len, cap0, rfl⟩ := WideShapes.okWide_slice Tryz.underlying22 o
  obtain ⟨fuel, hf⟩ := h
  have hf' : DataW.trod enc Tryz.prog w 0 (fun _ => true) true fuel 22 [.slice a0 len cap0] = some (d, p) := by simpa [Value.cells] using hf
  obtain ⟨a, L, cap, hcs, h1, h2, h3, h4, h5⟩ := open_slof (α := Mv) (MvIn w) Tryz.underlying22 qm_mv (by omega) (fun n cs y hl ht' hz' => by
    obtain ⟨xs, n', _, hy, _, hxl, hfld⟩ := DataW.trod_struct Tryz.underlying35 ht'
    have F : ∀ (i : Nat) (f : Field), (match (Tryz.prog).underlying 35 with | some (.struct fs) => fs | _ => #[])[i]? = some f → ∃ x, DataW.trod enc Tryz.prog w 0 (fun _ => true) true n' f.type ((cs.drop f.offset).take ((Tryz.prog).cellsOf f.type)) = some x ∧ Sized Tryz.prog f.type x.1 := by
      intro i f hi
      have hil : i < xs.length := by rw [hxl]; exact (Array.getElem?_eq_some_iff.1 hi).1
      refine ⟨xs[i], by rw [hfld i f hi, List.getElem?_eq_getElem hil], ?_⟩
      have hz2 := hz'
      rw [hy] at hz2
      exact hz2.field Tryz.underlying35 hi (by simp [hil])
    obtain ⟨x0, t0, s0⟩ := F 0 _ rfl
    obtain ⟨x1, t1, s1⟩ := F 1 _ rfl
    obtain ⟨x2, t2, s2⟩ := F 2 _ rfl
    obtain ⟨x3, t3, s3⟩ := F 3 _ rfl
    obtain ⟨x4, t4, s4⟩ := F 4 _ rfl
    obtain ⟨x5, t5, s5⟩ := F 5 _ rfl
    obtain ⟨x6, t6, s6⟩ := F 6 _ rfl
    replace t0 : DataW.trod enc Tryz.prog w 0 (fun _ => true) true n' 5 ((cs.drop 0).take ((Tryz.prog).cellsOf 5)) = some x0 := t0
    replace t1 : DataW.trod enc Tryz.prog w 0 (fun _ => true) true n' 5 ((cs.drop 1).take ((Tryz.prog).cellsOf 5)) = some x1 := t1
    replace t2 : DataW.trod enc Tryz.prog w 0 (fun _ => true) true n' 3 ((cs.drop 2).take ((Tryz.prog).cellsOf 3)) = some x2 := t2
    replace t3 : DataW.trod enc Tryz.prog w 0 (fun _ => true) true n' 29 ((cs.drop 3).take ((Tryz.prog).cellsOf 29)) = some x3 := t3
    replace t4 : DataW.trod enc Tryz.prog w 0 (fun _ => true) true n' 29 ((cs.drop 4).take ((Tryz.prog).cellsOf 29)) = some x4 := t4
    replace t5 : DataW.trod enc Tryz.prog w 0 (fun _ => true) true n' 30 ((cs.drop 5).take ((Tryz.prog).cellsOf 30)) = some x5 := t5
    replace t6 : DataW.trod enc Tryz.prog w 0 (fun _ => true) true n' 33 ((cs.drop 6).take ((Tryz.prog).cellsOf 33)) = some x6 := t6
    have G : ∀ k, k < 9 → (cs.drop k).take 1 = [cs.getD k undef] := fun k hk => Deep.take1_drop cs k undef (by omega)
    rw [qm_8, G 0 (by omega)] at t0
    rw [qm_8, G 1 (by omega)] at t1
    rw [qm_i, G 2 (by omega)] at t2
    rw [qm_64, G 3 (by omega)] at t3
    rw [qm_64, G 4 (by omega)] at t4
    rw [qm_b, G 5 (by omega)] at t5
    rw [qm_dg] at t6
    obtain ⟨m0, k0, _, w0⟩ := DataW.trod_int Tryz.underlying5 t0
    obtain ⟨m1, k1, _, w1⟩ := DataW.trod_int Tryz.underlying5 t1
    obtain ⟨m2, k2, _, w2⟩ := DataW.trod_int Tryz.underlying3 t2
    obtain ⟨m3, k3, _, w3⟩ := DataW.trod_int Tryz.underlying29 t3
    obtain ⟨m4, k4, _, w4⟩ := DataW.trod_int Tryz.underlying29 t4
    obtain ⟨aB, nB, cB, lB, k5, br5, le5⟩ := open_br t5 s5
    have D := open_fields Tryz.underlying33 rfl (by kernel_rfl) t6 s6 (by simp; omega)
    obtain ⟨u0, n0, z0, e0, r0, _⟩ := D 0 _ rfl
    obtain ⟨u1, n1, z1, e1, r1, _⟩ := D 1 _ rfl
    obtain ⟨u2, n2, z2, e2, r2, g2⟩ := D 2 _ rfl
    obtain ⟨m6, j0, _, w6⟩ := DataW.trod_int Tryz.underlying31 r0
    obtain ⟨m7, j1, _, w7⟩ := DataW.trod_int Tryz.underlying31 r1
    obtain ⟨aD, nD, cD, lD, j2, br8, le8⟩ := open_br r2 g2
    simp only [List.cons.injEq, and_true] at k0 k1 k2 k3 k4 j0 j1
    subst j0 j1 j2
    have b0 := bounds_u8 w0
    have b1 := bounds_u8 w1
    have b2 := bounds_i64 w2
    have b3 := bounds_u64 w3
    have b4 := bounds_u64 w4
    have b6 := bounds_u32 w6
    have b7 := bounds_u32 w7
    refine ⟨⟨m0.toNat, m1.toNat, m2, m3.toNat, m4.toNat, lB, m6.toNat, m7.toNat, lD⟩, aB, nB, cB, aD, nD, cD, ?_, br5, br8, ⟨?_, ?_, b2.1, b2.2, ?_, ?_, ?_, ?_⟩, le5, le8⟩
    · have c0 : ((m0.toNat : Nat) : Int) = m0 := by omega
      have c1 : ((m1.toNat : Nat) : Int) = m1 := by omega
      have c3 : ((m3.toNat : Nat) : Int) = m3 := by omega
      have c4 : ((m4.toNat : Nat) : Int) = m4 := by omega
      have c6 : ((m6.toNat : Nat) : Int) = m6 := by omega
      have c7 : ((m7.toNat : Nat) : Int) = m7 := by omega
      obtain ⟨a0, a1, a2, a3, a4, a5, a6, a7, a8, rfl⟩ : ∃ a0 a1 a2 a3 a4 a5 a6 a7 a8, cs = [a0, a1, a2, a3, a4, a5, a6, a7, a8] := by
        match cs, hl with
        | [a0, a1, a2, a3, a4, a5, a6, a7, a8], _ => exact ⟨a0, a1, a2, a3, a4, a5, a6, a7, a8, rfl⟩
      simp at k0 k1 k2 k3 k4 k5 e0 e1 e2
      subst k0 k1 k2 k3 k4 k5 e0 e1 e2
      simp [mvCs, c0, c1, c3, c4, c6, c7]
    · show m0.toNat ≤ 255; omega
    · show m1.toNat ≤ 255; omega
    · show m3.toNat ≤ M64; simp only [M64]; omega
    · show m4.toNat ≤ M64; simp only [M64]; omega
    · show m6.toNat ≤ 4294967295; omega
    · show m7.toNat ≤ 4294967295; omega) hf' z
  cases hcs
  refine ⟨_, L, _, rfl, fun i hi => ?_, le_reach h1 ym_mv h3, fun m hm => ?_⟩
  · obtain ⟨b, off, cs, ha, hb, hl, hc, aB, nB, cB, aD, nD, cD, rfl, g1, g2, _⟩ := h5 i hi
    exact ⟨b, off, aB, nB, cB, aD, nD, cD, ha, hb, fun j v hj => hc j v (by simpa using hj), g1, g2⟩
  · obtain ⟨i, hi, rfl⟩ := List.getElem_of_mem hm
    obtain ⟨b, off, cs, ha, hb, hl, hc, aB, nB, cB, aD, nD, cD, rfl, g1, g2, g3, g4, g5⟩ := h5 i hi
    exact ⟨g3, g4, g5⟩
end
end Go.Proofs.YthangjgdjhhfgaaGreatDoor
