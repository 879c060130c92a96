/- Arguments opened under a bound of their bulk (written by gen_scbk.py). -/
import Derived.Test.YthangjgdjhhfgaaGreatDoorScL7
import Derived.Test.YthangjgdjhhfgaaGreatDoorRows
namespace Go.Proofs.YthangjgdjhhfgaaGreatDoor
open Go.RowKit
set_option linter.unusedVariables false
theorem bulk_one {H : Type} (d : DataW H) : 1 ≤ Rows.uptoBulk d := by
  cases d with
  | lit l => cases l <;> simp [Rows.uptoBulk]
  | nil => simp [Rows.uptoBulk]
  | ptr d => simp [Rows.uptoBulk]
  | slice elems spare => simp [Rows.uptoBulk]
  | agg parts => simp [Rows.uptoBulk]
  | iface t d => simp [Rows.uptoBulk]
  | map entries => simp [Rows.uptoBulk]
  | held h => simp [Rows.uptoBulk]
theorem bulk_part {H : Type} {d : DataW H} {l : List (DataW H)} (h : d ∈ l) : Rows.uptoBulk d ≤ Rows.uptoBulkAll l := by
  induction l with
  | nil => cases h
  | cons x r ih =>
    simp only [Rows.uptoBulkAll]
    rcases List.mem_cons.1 h with e | e
    · subst e; omega
    · have := ih e; omega
theorem bulk_len {H : Type} (l : List (DataW H)) : l.length ≤ Rows.uptoBulkAll l := by
  induction l with
  | nil => simp [Rows.uptoBulkAll]
  | cons x r ih => have := bulk_one x; simp only [Rows.uptoBulkAll, List.length_cons]; omega
section
variable {H : Type} {enc : TypeId × Value → H} {P : Program} {w : World} {base : Nat} {v : Value} {d : DataW H} {p : List MemPlace}
/-- Its bulk is small. -/
def Bk (d : DataW H) : Prop := Rows.uptoBulk d ≤ 1048576
theorem Bk.slice {es sp : List (DataW H)} (h : Bk (.slice es sp)) : (es.length + sp.length) ≤ 1048576 ∧ ∀ d ∈ es, Bk d := by
  unfold Bk at h
  simp only [Rows.uptoBulk] at h
  have h1 := bulk_len es
  have h2 := bulk_len sp
  exact ⟨by omega, fun d hd => by have := bulk_part hd; unfold Bk; omega⟩
theorem Bk.field {parts : List (DataW H)} {j : Nat} {d : DataW H} (h : Bk (.agg parts)) (hd : parts[j]? = some d) : Bk d := by
  unfold Bk at h ⊢
  simp only [Rows.uptoBulk] at h
  have := bulk_part (List.mem_of_getElem? hd)
  omega
theorem Bk.of {l : List (DataW H)} (hk : Rows.uptoBulkAll l ≤ 1048576) (h : d ∈ l) : Bk d := by
  have := bulk_part h
  unfold Bk; omega
/-- A slice opened, element by element. -/
theorem open_slof_b {α : Type} {t e : TypeId} {size fuel : Nat} {cs : List Value} (R : α → List Value → Prop) (ht : P.underlying t = some (.slice e)) (hC : P.cellsOf e = size) (hpos : 0 < size)
    (conv : ∀ (n : Nat) (cs : List Value) (y : DataW H × List MemPlace), cs.length = size → DataW.trod enc P w 0 (fun _ => true) true n e cs = some y → Bk y.1 → ∃ x, R x cs)
    (h : DataW.trod enc P w 0 (fun _ => true) true fuel t cs = some (d, p)) (hz : Bk d) :
    ∃ a L cap, cs = [.slice a L.length cap] ∧ L.length ≤ cap ∧ cap ≤ maxLen ∧ cap ≤ 1048576 ∧ (a = none → cap = 0) ∧ SlOf w a size R L := by
  rcases Deep.open_slice ht h with ⟨hcs, _⟩ | ⟨x, l, c, m, n, D, Pl, hcs, _, hl, hm, hmm, hx, hall⟩
  · subst hcs
    exact ⟨none, [], 0, rfl, by simp, by simp, by simp, fun _ => rfl, fun i hi => by simp at hi⟩
  · subst hcs
    simp only [if_true] at hmm
    obtain rfl : m = c := by simpa using hmm
    simp only [Prod.mk.injEq] at hx
    obtain ⟨rfl, _⟩ := hx
    obtain ⟨hz1, hz2⟩ := hz.slice
    simp only [List.length_map, List.length_range] at hz1
    obtain ⟨b, off, spot⟩ := x
    have each : ∀ i, i < l → ∃ q : List Value × α, q.1.length = size ∧ b < w.heap.size ∧ spot = none ∧ (∀ j v', q.1[j]? = some v' → w.cell? ⟨b, off + i * size + j, none⟩ = some v') ∧ R q.2 q.1 := by
      intro i hi
      obtain ⟨cs', h1, h2⟩ := hall i (by omega)
      obtain ⟨_, hlen, hcell⟩ := World.cells?_some h1
      rw [hC] at hlen hcell
      have hspot : spot = none := by
        obtain ⟨cs0, g1, _⟩ := hall 0 (by omega)
        obtain ⟨_, hlen0, hcell0⟩ := World.cells?_some g1
        rw [hC] at hlen0 hcell0
        have := hcell0 0 hpos
        rw [List.getElem?_eq_getElem (by omega)] at this
        have := World.cell?_spot this
        simpa [Addr.add] using this
      subst hspot
      have g : ∀ j v', cs'[j]? = some v' → w.cell? ⟨b, off + i * size + j, none⟩ = some v' := by
        intro j v' hj
        have hjl : j < size := by have := (List.getElem?_eq_some_iff.1 hj).1; omega
        have := hcell j hjl
        rw [hj, addr_add, addr_add] at this
        exact this
      obtain ⟨x, hx⟩ := conv n cs' (D i, Pl i) hlen h2 (hz2 _ (List.mem_map.2 ⟨i, List.mem_range.2 hi, rfl⟩))
      refine ⟨(cs', x), hlen, ?_, rfl, g, hx⟩
      have := g 0 (cs'[0]'(by omega)) (by simp)
      exact World.block_lt_of_cell? w _ this
    rcases Nat.eq_zero_or_pos l with rfl | hl0
    · exact ⟨some ⟨b, off, spot⟩, [], m, rfl, by simp, hm, by omega, by simp, fun i hi => by simp at hi⟩
    · obtain ⟨q0, _⟩ := each 0 hl0
      haveI : Inhabited (List Value × α) := ⟨q0⟩
      obtain ⟨F, hF⟩ := Deep.choose_lt each
      have hlen : ((List.range l).map fun i => (F i).2).length = l := by simp
      refine ⟨some ⟨b, off, spot⟩, (List.range l).map fun i => (F i).2, m, by rw [hlen], by rw [hlen]; exact hl, hm, by omega, by simp, fun i hi => ?_⟩
      rw [hlen] at hi
      obtain ⟨h1, h2, rfl, h4, h5⟩ := hF i hi
      exact ⟨b, off, (F i).1, rfl, h2, h1, h4, by simpa using h5⟩

/-- A struct's fields, each of one cell. -/
theorem open_fields_b {t : TypeId} {fs : Array Field} {nf fuel : Nat} {cs : List Value} {y : DataW H × List MemPlace} (he : P.underlying t = some (.struct fs)) (hnf : fs.size = nf) (hone : Deep.oneCellFields P fs = true)
    (h : DataW.trod enc P w 0 (fun _ => true) true fuel t cs = some y) (hz : Bk y.1) (hl : cs.length = nf) :
    ∀ (j : Nat) (f : Field), fs[j]? = some f → ∃ (v : Value) (n : Nat) (z : DataW H × List MemPlace), cs[j]? = some v ∧ DataW.trod enc P w 0 (fun _ => true) true n f.type [v] = some z ∧ Bk z.1 := by
  have hone' := Deep.hone_of hone
  obtain ⟨xs, n', _, rfl, _, hxl, hfld⟩ := DataW.trod_struct he h
  intro j f hj
  obtain ⟨ho, hc1⟩ := hone' j f hj
  have hjl : j < nf := by have := (Array.getElem?_eq_some_iff.1 hj).1; omega
  have h3 := hfld j f hj
  rw [ho, hc1, Deep.take1_drop _ _ undef (by omega)] at h3
  have hxj : xs[j]? = some (xs[j]'(by rw [hxl, hnf]; exact hjl)) := by simp
  refine ⟨cs.getD j undef, n', xs[j]'(by rw [hxl, hnf]; exact hjl), by simp [hl, hjl], by rw [h3]; exact hxj, ?_⟩
  exact hz.field (j := j) (by simp [hxj])

/-- A slice of integers. -/
theorem open_ints_z_b {t e : TypeId} {k : IntKind} {fuel : Nat} {v : Value} {z : DataW H × List MemPlace} (ht : P.underlying t = some (.slice e)) (he : P.underlying e = some (.int k)) (hc : P.cellsOf e = 1)
    (h : DataW.trod enc P w 0 (fun _ => true) true fuel t [v] = some z) (hz : Bk z.1) :
    ∃ a L cap, v = .slice a L.length cap ∧ L.length ≤ cap ∧ cap ≤ maxLen ∧ cap ≤ 1048576 ∧ (a = none → cap = 0) ∧ IntsAt k w a L := by
  obtain ⟨a, L, cap, hcs, h1, h2, h3, h4, h5⟩ := open_slof_b (α := Int) (fun n cs => cs = [.int k n] ∧ (Lit.int k n).wf = true) ht hc (by omega) (fun n cs y hl ht' _ => by
    obtain ⟨m, e0, _, wm⟩ := DataW.trod_int he ht'
    exact ⟨m, e0, wm⟩) h hz
  cases hcs
  refine ⟨a, L, cap, rfl, h1, h2, h3, h4, fun i hi => ?_⟩
  obtain ⟨b, off, cs, ha, hb, _, hcell, rfl, hw⟩ := h5 i hi
  have e : L.getD i 0 = L[i] := by simp [hi]
  exact ⟨b, off, ha, hb, by rw [e]; simpa using hcell 0 _ rfl, by rw [e]; exact hw⟩
end
section
variable {H : Type} {enc : TypeId × Value → H} {w : World} {base : Nat} {v : Value} {d : DataW H} {p : List MemPlace}
def MvInB (w : World) (q : Mv) (cs : List Value) : Prop := ∃ aB nB cB aD nD cD, cs = (mvCs q (.slice aB nB cB) (.slice aD nD cD)).toList ∧ BR w aB nB q.b ∧ BR w aD nD q.d ∧ MvOk q ∧ q.b.length ≤ 1048576 ∧ q.d.length ≤ 1048576
theorem open_br_b {fuel : Nat} {v : Value} {z : DataW H × List MemPlace} (h : DataW.trod enc Tryz.prog w 0 (fun _ => true) true fuel 30 [v] = some z) (hz : Bk z.1) :
    ∃ a n cap l, v = .slice a n cap ∧ BR w a n l ∧ l.length ≤ 1048576 := by
  obtain ⟨a, L, cap, rfl, h1, h2, h3, h4, h5⟩ := open_ints_z_b Tryz.underlying30 Tryz.underlying5 qm_8 h hz
  have hL : i8 (L.map fun n => UInt8.ofNat n.toNat) = L := by
    unfold i8
    rw [List.map_map]
    refine (List.map_congr_left (fun n hn => ?_)).trans (List.map_id L)
    have := bounds_u8 (h5.wf n hn)
    show ((UInt8.ofNat n.toNat).toNat : Int) = n
    rw [UInt8.toNat_ofNat']
    omega
  exact ⟨a, L.length, cap, L.map fun n => UInt8.ofNat n.toNat, rfl, ⟨by rw [hL]; exact h5, by simp⟩, by rw [List.length_map]; exact Nat.le_trans h1 h3⟩
set_option maxRecDepth 100000 in
set_option maxHeartbeats 4000000 in
theorem open_moves_b (o : Value.okWide Tryz.prog w .any base 22 v) (h : DataW.Trod enc Tryz.prog w 0 (fun _ => true) true 22 v d p) (z : Bk d) :
    ∃ (a : Option Addr) (L : List Mv) (cap : Nat), v = .slice a L.length cap ∧ MsR w a L ∧ L.length ≤ 1048576 ∧ ∀ m ∈ L, MvOk m ∧ m.b.length ≤ 1048576 ∧ m.d.length ≤ 1048576 := by
  obtain ⟨a0, len, cap0, rfl⟩ := WideShapes.okWide_slice Tryz.underlying22 o
  obtain ⟨fuel, hf⟩ := h
  have hf' : DataW.trod enc Tryz.prog w 0 (fun _ => true) true fuel 22 [.slice a0 len cap0] = some (d, p) := by simpa [Value.cells] using hf
  obtain ⟨a, L, cap, hcs, h1, h2, h3, h4, h5⟩ := open_slof_b (α := Mv) (MvInB w) Tryz.underlying22 qm_mv (by omega) (fun n cs y hl ht' hz' => by
    obtain ⟨xs, n', _, hy, _, hxl, hfld⟩ := DataW.trod_struct Tryz.underlying35 ht'
    have F : ∀ (i : Nat) (f : Field), (match (Tryz.prog).underlying 35 with | some (.struct fs) => fs | _ => #[])[i]? = some f → ∃ x, DataW.trod enc Tryz.prog w 0 (fun _ => true) true n' f.type ((cs.drop f.offset).take ((Tryz.prog).cellsOf f.type)) = some x ∧ Bk x.1 := by
      intro i f hi
      have hil : i < xs.length := by rw [hxl]; exact (Array.getElem?_eq_some_iff.1 hi).1
      refine ⟨xs[i], by rw [hfld i f hi, List.getElem?_eq_getElem hil], ?_⟩
      have hz2 := hz'
      rw [hy] at hz2
      exact hz2.field (j := i) (by simp [hil])
    obtain ⟨x0, t0, s0⟩ := F 0 _ rfl
    obtain ⟨x1, t1, s1⟩ := F 1 _ rfl
    obtain ⟨x2, t2, s2⟩ := F 2 _ rfl
    obtain ⟨x3, t3, s3⟩ := F 3 _ rfl
    obtain ⟨x4, t4, s4⟩ := F 4 _ rfl
    obtain ⟨x5, t5, s5⟩ := F 5 _ rfl
    obtain ⟨x6, t6, s6⟩ := F 6 _ rfl
    replace t0 : DataW.trod enc Tryz.prog w 0 (fun _ => true) true n' 5 ((cs.drop 0).take ((Tryz.prog).cellsOf 5)) = some x0 := t0
    replace t1 : DataW.trod enc Tryz.prog w 0 (fun _ => true) true n' 5 ((cs.drop 1).take ((Tryz.prog).cellsOf 5)) = some x1 := t1
    replace t2 : DataW.trod enc Tryz.prog w 0 (fun _ => true) true n' 3 ((cs.drop 2).take ((Tryz.prog).cellsOf 3)) = some x2 := t2
    replace t3 : DataW.trod enc Tryz.prog w 0 (fun _ => true) true n' 29 ((cs.drop 3).take ((Tryz.prog).cellsOf 29)) = some x3 := t3
    replace t4 : DataW.trod enc Tryz.prog w 0 (fun _ => true) true n' 29 ((cs.drop 4).take ((Tryz.prog).cellsOf 29)) = some x4 := t4
    replace t5 : DataW.trod enc Tryz.prog w 0 (fun _ => true) true n' 30 ((cs.drop 5).take ((Tryz.prog).cellsOf 30)) = some x5 := t5
    replace t6 : DataW.trod enc Tryz.prog w 0 (fun _ => true) true n' 33 ((cs.drop 6).take ((Tryz.prog).cellsOf 33)) = some x6 := t6
    have G : ∀ k, k < 9 → (cs.drop k).take 1 = [cs.getD k undef] := fun k hk => Deep.take1_drop cs k undef (by omega)
    rw [qm_8, G 0 (by omega)] at t0
    rw [qm_8, G 1 (by omega)] at t1
    rw [qm_i, G 2 (by omega)] at t2
    rw [qm_64, G 3 (by omega)] at t3
    rw [qm_64, G 4 (by omega)] at t4
    rw [qm_b, G 5 (by omega)] at t5
    rw [qm_dg] at t6
    obtain ⟨m0, k0, _, w0⟩ := DataW.trod_int Tryz.underlying5 t0
    obtain ⟨m1, k1, _, w1⟩ := DataW.trod_int Tryz.underlying5 t1
    obtain ⟨m2, k2, _, w2⟩ := DataW.trod_int Tryz.underlying3 t2
    obtain ⟨m3, k3, _, w3⟩ := DataW.trod_int Tryz.underlying29 t3
    obtain ⟨m4, k4, _, w4⟩ := DataW.trod_int Tryz.underlying29 t4
    obtain ⟨aB, nB, cB, lB, k5, br5, le5⟩ := open_br_b t5 s5
    have D := open_fields_b Tryz.underlying33 rfl (by kernel_rfl) t6 s6 (by simp; omega)
    obtain ⟨u0, n0, z0, e0, r0, _⟩ := D 0 _ rfl
    obtain ⟨u1, n1, z1, e1, r1, _⟩ := D 1 _ rfl
    obtain ⟨u2, n2, z2, e2, r2, g2⟩ := D 2 _ rfl
    obtain ⟨m6, j0, _, w6⟩ := DataW.trod_int Tryz.underlying31 r0
    obtain ⟨m7, j1, _, w7⟩ := DataW.trod_int Tryz.underlying31 r1
    obtain ⟨aD, nD, cD, lD, j2, br8, le8⟩ := open_br_b r2 g2
    simp only [List.cons.injEq, and_true] at k0 k1 k2 k3 k4 j0 j1
    subst j0 j1 j2
    have b0 := bounds_u8 w0
    have b1 := bounds_u8 w1
    have b2 := bounds_i64 w2
    have b3 := bounds_u64 w3
    have b4 := bounds_u64 w4
    have b6 := bounds_u32 w6
    have b7 := bounds_u32 w7
    refine ⟨⟨m0.toNat, m1.toNat, m2, m3.toNat, m4.toNat, lB, m6.toNat, m7.toNat, lD⟩, aB, nB, cB, aD, nD, cD, ?_, br5, br8, ⟨?_, ?_, b2.1, b2.2, ?_, ?_, ?_, ?_⟩, le5, le8⟩
    · have c0 : ((m0.toNat : Nat) : Int) = m0 := by omega
      have c1 : ((m1.toNat : Nat) : Int) = m1 := by omega
      have c3 : ((m3.toNat : Nat) : Int) = m3 := by omega
      have c4 : ((m4.toNat : Nat) : Int) = m4 := by omega
      have c6 : ((m6.toNat : Nat) : Int) = m6 := by omega
      have c7 : ((m7.toNat : Nat) : Int) = m7 := by omega
      obtain ⟨a0, a1, a2, a3, a4, a5, a6, a7, a8, rfl⟩ : ∃ a0 a1 a2 a3 a4 a5 a6 a7 a8, cs = [a0, a1, a2, a3, a4, a5, a6, a7, a8] := by
        match cs, hl with
        | [a0, a1, a2, a3, a4, a5, a6, a7, a8], _ => exact ⟨a0, a1, a2, a3, a4, a5, a6, a7, a8, rfl⟩
      simp at k0 k1 k2 k3 k4 k5 e0 e1 e2
      subst k0 k1 k2 k3 k4 k5 e0 e1 e2
      simp [mvCs, c0, c1, c3, c4, c6, c7]
    · show m0.toNat ≤ 255; omega
    · show m1.toNat ≤ 255; omega
    · show m3.toNat ≤ M64; simp only [M64]; omega
    · show m4.toNat ≤ M64; simp only [M64]; omega
    · show m6.toNat ≤ 4294967295; omega
    · show m7.toNat ≤ 4294967295; omega) hf' z
  cases hcs
  refine ⟨_, L, _, rfl, fun i hi => ?_, Nat.le_trans h1 h3, fun m hm => ?_⟩
  · obtain ⟨b, off, cs, ha, hb, hl, hc, aB, nB, cB, aD, nD, cD, rfl, g1, g2, _⟩ := h5 i hi
    exact ⟨b, off, aB, nB, cB, aD, nD, cD, ha, hb, fun j v hj => hc j v (by simpa using hj), g1, g2⟩
  · obtain ⟨i, hi, rfl⟩ := List.getElem_of_mem hm
    obtain ⟨b, off, cs, ha, hb, hl, hc, aB, nB, cB, aD, nD, cD, rfl, g1, g2, g3, g4, g5⟩ := h5 i hi
    exact ⟨g3, g4, g5⟩
end
end Go.Proofs.YthangjgdjhhfgaaGreatDoor
