/- Calls of a plan that are handed in; heavy. -/
import Derived.Test.YtjkihpbpnoelnaaGreatDoorPr17
import Derived.Test.YtjkihpbpnoelnaaGreatDoorArgs
namespace Go.Proofs.YtjkihpbpnoelnaaGreatDoor
open Go.RowKit
set_option linter.unusedVariables false
structure DoS where
  kind : Nat
  id : Nat
  u : Nat
  inc : Bool
  is : Bool
  aI : Option Addr
  cI : Nat
  ids : List Nat
def encD (d : DoS) : List Value := [.int .u8 d.kind, .int .u64 d.id, .int .u8 d.u, .bool d.inc, .bool d.is, .slice d.aI d.ids.length d.cI]
structure DoOk (w : World) (d : DoS) : Prop where
  kind : d.kind < 256
  id : d.id < 18446744073709551616
  u : d.u < 256
  sl : Sl .u64 w d.aI d.cI (natI d.ids)
  sm : d.ids.length ≤ 140737488355328
theorem DoOk.below {w w' : World} {d : DoS} (h : DoOk w d) (hb : Below w.heap.size w w') : DoOk w' d := ⟨h.kind, h.id, h.u, h.sl.below hb, h.sm⟩
/-- The slice at a is this script. -/
def DoAt (w : World) (a : Option Addr) (D : List DoS) : Prop := SlOf w a 6 (fun d cs => cs = encD d ∧ DoOk w d) D
theorem DoAt.below {w w' : World} {a : Option Addr} {D : List DoS} (h : DoAt w a D) (hb : Below w.heap.size w w') : DoAt w' a D := SlOf.below h hb fun x cs hx => ⟨hx.1, hx.2.below hb⟩
theorem DoAt.get {w : World} {a : Option Addr} {D : List DoS} (h : DoAt w a D) (i : Nat) (hi : i < D.length) : ∃ b off d, D[i]? = some d ∧ a = some ⟨b, off, none⟩ ∧ b < w.heap.size ∧ DoOk w d ∧
    w.cell? ⟨b, off + i * 6, none⟩ = some (.int .u8 d.kind) ∧ w.cell? ⟨b, off + i * 6 + 1, none⟩ = some (.int .u64 d.id) ∧ w.cell? ⟨b, off + i * 6 + 2, none⟩ = some (.int .u8 d.u) ∧ w.cell? ⟨b, off + i * 6 + 3, none⟩ = some (.bool d.inc) ∧
    w.cell? ⟨b, off + i * 6 + 4, none⟩ = some (.bool d.is) ∧ w.cell? ⟨b, off + i * 6 + 5, none⟩ = some (.slice d.aI d.ids.length d.cI) := by
  obtain ⟨b, off, cs, ha, hb, _, hc, rfl, hok⟩ := h i hi
  exact ⟨b, off, D[i], by simp [hi], ha, hb, hok, hc 0 _ rfl, hc 1 _ rfl, hc 2 _ rfl, hc 3 _ rfl, hc 4 _ rfl, hc 5 _ rfl⟩
def HeavyPost (e : Ending) (D : List DoS) : Prop := ∃ v, e = .returned (.bool v) ∧ (v = false → D.length ≤ 600 ∧ ∀ d ∈ D, d.ids.length ≤ 600)
set_option maxRecDepth 100000 in
set_option maxHeartbeats 4000000 in
theorem heavy_any (a : Option Addr) (n cap : Nat) (D : List DoS) (w : World) (hn : n = D.length) (hm : D.length ≤ 140737488355328) (hD : DoAt w a D) :
    Calls Tryz.prog 18 #[.slice a n cap] w fun e w' => Below w.heap.size w w' ∧ HeavyPost e D := by
  have HN := Lib.hid hn
  have HD := Lib.hid hD
  have hnm : n ≤ 140737488355328 := by omega
  clear hn hm hD
  go_enter Tryz.func18, Tryz.ntmps18
  go_wp2_with (fail)
  go_loopw [3, 5, 8] (fun s _ i wr => ∃ (k : Nat) (z : Int), i = .int .i64 k ∧ s = .int .i64 z ∧ (k : Int) ≤ z ∧ z ≤ 600 ∧ k ≤ n ∧ Below w.heap.size w wr ∧ Hid (∀ d ∈ D.take k, d.ids.length ≤ 600)) (fun _ _ i _ => n - (intOf i).toNat)
  case atStart => exact ⟨0, 0, rfl, rfl, by omega, by omega, by omega, Below.refl _ _, Lib.hid (by simp)⟩
  case round =>
    obtain ⟨k, z, rfl, rfl, hkz, hz6, hk, bw, hok⟩ := hrel
    by_cases hlt : k < n
    · have hkD : k < D.length := by have := HN.out; omega
      obtain ⟨b, off, d, hd, ha, hb, dok, c0, c1, c2, c3, c4, c5⟩ := (HD.out.below bw).get k hkD
      subst ha
      obtain ⟨kind, id, u, inc, is, aI, cI, ids⟩ := d
      have h10 := dok.sm
      simp only at *
      obtain ⟨nl, hnl⟩ : ∃ n, ids.length = n := ⟨_, rfl⟩
      rw [hnl] at c5 h10
      have hts : D.take (k + 1) = D.take k ++ [⟨kind, id, u, inc, is, aI, cI, ids⟩] := by
        rw [List.take_add_one, hd]; rfl
      have HTS := Lib.hid hts
      have HNL := Lib.hid hnl
      have b1 : Below w.heap.size w (wr.alloc (.cells #[.int .u8 kind, .int .u64 id, .int .u8 u, .bool inc, .bool is, .slice aI nl cI] 45)) := bw.alloc bw.size _
      clear hts hd dok hnl
      by_cases g0 : 600 < z + (1 + (nl : Int))
      · go_wp2_with (fail)
        go_returns
        exact ⟨b1, true, rfl, fun h => by cases h⟩
      · go_wp2_with (fail)
        refine ⟨⟨k + 1, z + (1 + nl), by go_num, by go_num, by omega, by omega, by omega, b1, Lib.hid (fun d hd => ?_)⟩, by simp [intOf]; omega⟩
        rw [HTS.out] at hd
        rcases List.mem_append.1 hd with hd | hd
        · exact hok.out d hd
        · rw [List.mem_singleton.1 hd]
          show ids.length ≤ 600
          have := HNL.out
          omega
    · obtain rfl : k = n := by omega
      have hok2 := hok.out
      rw [show D.take k = D by rw [HN.out, List.take_length]] at hok2
      have HOK := Lib.hid hok2
      clear hok hok2
      go_wp2_with (fail)
      go_returns
      exact ⟨bw, false, rfl, fun _ => ⟨by have := HN.out; omega, HOK.out⟩⟩
section
variable {H : Type} {enc : TypeId × Value → H} {w : World} {base : Nat} {v : Value} {d : DataW H} {p : List MemPlace}
theorem qd_do : (Tryz.prog).cellsOf 45 = 6 := by kernel_rfl
theorem qd_pr : (Tryz.prog).cellsOf 26 = 2 := by kernel_rfl
theorem qd_8 : (Tryz.prog).cellsOf 5 = 1 := by kernel_rfl
theorem qd_64 : (Tryz.prog).cellsOf 31 = 1 := by kernel_rfl
theorem qd_b : (Tryz.prog).cellsOf 4 = 1 := by kernel_rfl
theorem qd_l : (Tryz.prog).cellsOf 43 = 1 := by kernel_rfl
theorem yd_64 : 1 ≤ (Tryz.prog).bytesOf 31 := of_decide_eq_true (by kernel_rfl)
theorem yd_do : 1 ≤ (Tryz.prog).bytesOf 45 := of_decide_eq_true (by kernel_rfl)
theorem le_reach {a b n : Nat} (h1 : a ≤ b) (h2 : 1 ≤ n) (h3 : b * n ≤ reachBytes) : a ≤ 140737488355328 := by
  have h4 : b * 1 ≤ b * n := Nat.mul_le_mul_left b h2
  unfold reachBytes at h3
  omega
theorem natI_of {L : List Int} (h : ∀ n ∈ L, (Lit.int .u64 n).wf = true) : natI (L.map Int.toNat) = L := by
  unfold natI
  rw [List.map_map]
  refine (List.map_congr_left (fun n hn => ?_)).trans (List.map_id L)
  have := bounds_u64 (h n hn)
  show ((n.toNat : Nat) : Int) = n
  omega
theorem open_ids {fuel : Nat} {v : Value} {z : DataW H × List MemPlace} (h : DataW.trod enc Tryz.prog w 0 (fun _ => true) true fuel 43 [v] = some z) (hz : Sized Tryz.prog 43 z.1) :
    ∃ a cap ids, v = .slice a ids.length cap ∧ Sl .u64 w a cap (natI ids) ∧ ids.length ≤ 140737488355328 := by
  obtain ⟨a, L, cap, rfl, h1, h2, h3, h4, h5⟩ := open_ints_z Tryz.underlying43 Tryz.underlying31 qd_64 h hz
  refine ⟨a, cap, L.map Int.toNat, by simp, ?_, by rw [List.length_map]; exact le_reach h1 yd_64 h3⟩
  rw [natI_of h5.wf]
  exact ⟨h5, h4, h1, h2⟩
set_option maxRecDepth 100000 in
set_option maxHeartbeats 4000000 in
theorem open_do (o : Value.okWide Tryz.prog w .any base 40 v) (h : DataW.Trod enc Tryz.prog w 0 (fun _ => true) true 40 v d p) (z : Sized Tryz.prog 40 d) :
    ∃ (a : Option Addr) (D : List DoS) (cap : Nat), v = .slice a D.length cap ∧ D.length ≤ 140737488355328 ∧ DoAt w a D := by
  obtain ⟨a0, len, cap0, rfl⟩ := WideShapes.okWide_slice Tryz.underlying40 o
  obtain ⟨fuel, hf⟩ := h
  have hf' : DataW.trod enc Tryz.prog w 0 (fun _ => true) true fuel 40 [.slice a0 len cap0] = some (d, p) := by simpa [Value.cells] using hf
  obtain ⟨a, L, cap, hcs, h1, h2, h3, h4, h5⟩ := open_slof (α := DoS) (fun q cs => cs = encD q ∧ DoOk w q) Tryz.underlying40 qd_do (by omega) (fun n cs y hl ht' hz' => by
    obtain ⟨xs, n', _, hy, _, hxl, hfld⟩ := DataW.trod_struct Tryz.underlying45 ht'
    have F : ∀ (i : Nat) (f : Field), (match (Tryz.prog).underlying 45 with | some (.struct fs) => fs | _ => #[])[i]? = some f → ∃ x, DataW.trod enc Tryz.prog w 0 (fun _ => true) true n' f.type ((cs.drop f.offset).take ((Tryz.prog).cellsOf f.type)) = some x ∧ Sized Tryz.prog f.type x.1 := by
      intro i f hi
      have hil : i < xs.length := by rw [hxl]; exact (Array.getElem?_eq_some_iff.1 hi).1
      refine ⟨xs[i], by rw [hfld i f hi, List.getElem?_eq_getElem hil], ?_⟩
      have hz2 := hz'
      rw [hy] at hz2
      exact hz2.field Tryz.underlying45 hi (by simp [hil])
    obtain ⟨x0, t0, s0⟩ := F 0 _ rfl
    obtain ⟨x1, t1, s1⟩ := F 1 _ rfl
    obtain ⟨x2, t2, s2⟩ := F 2 _ rfl
    obtain ⟨x3, t3, s3⟩ := F 3 _ rfl
    obtain ⟨x4, t4, s4⟩ := F 4 _ rfl
    replace t0 : DataW.trod enc Tryz.prog w 0 (fun _ => true) true n' 5 ((cs.drop 0).take ((Tryz.prog).cellsOf 5)) = some x0 := t0
    replace t1 : DataW.trod enc Tryz.prog w 0 (fun _ => true) true n' 31 ((cs.drop 1).take ((Tryz.prog).cellsOf 31)) = some x1 := t1
    replace t2 : DataW.trod enc Tryz.prog w 0 (fun _ => true) true n' 26 ((cs.drop 2).take ((Tryz.prog).cellsOf 26)) = some x2 := t2
    replace t3 : DataW.trod enc Tryz.prog w 0 (fun _ => true) true n' 4 ((cs.drop 4).take ((Tryz.prog).cellsOf 4)) = some x3 := t3
    replace t4 : DataW.trod enc Tryz.prog w 0 (fun _ => true) true n' 43 ((cs.drop 5).take ((Tryz.prog).cellsOf 43)) = some x4 := t4
    have G : ∀ k, k < 6 → (cs.drop k).take 1 = [cs.getD k undef] := fun k hk => Deep.take1_drop cs k undef (by omega)
    rw [qd_8, G 0 (by omega)] at t0
    rw [qd_64, G 1 (by omega)] at t1
    rw [qd_pr] at t2
    rw [qd_b, G 4 (by omega)] at t3
    rw [qd_l, G 5 (by omega)] at t4
    obtain ⟨m0, k0, _, w0⟩ := DataW.trod_int Tryz.underlying5 t0
    obtain ⟨m1, k1, _, w1⟩ := DataW.trod_int Tryz.underlying31 t1
    have D := open_fields Tryz.underlying26 rfl (by kernel_rfl) t2 s2 (by simp; omega)
    obtain ⟨u0, n0, z0, e0, r0, _⟩ := D 0 _ rfl
    obtain ⟨u1, n1, z1, e1, r1, _⟩ := D 1 _ rfl
    obtain ⟨m2, j0, _, w2⟩ := DataW.trod_int Tryz.underlying5 r0
    obtain ⟨b2, j1, _⟩ := DataW.trod_bool Tryz.underlying4 r1
    obtain ⟨b3, k3, _⟩ := DataW.trod_bool Tryz.underlying4 t3
    obtain ⟨aI, cI, ids, k4, sl4, le4⟩ := open_ids t4 s4
    simp only [List.cons.injEq, and_true] at k0 k1 j0 j1 k3
    subst j0 j1
    have b0 := bounds_u8 w0
    have b1 := bounds_u64 w1
    have b22 := bounds_u8 w2
    refine ⟨⟨m0.toNat, m1.toNat, m2.toNat, b2, b3, aI, cI, ids⟩, ?_, ⟨by show m0.toNat < 256; omega, by show m1.toNat < 18446744073709551616; omega, by show m2.toNat < 256; omega, sl4, le4⟩⟩
    have c0 : ((m0.toNat : Nat) : Int) = m0 := by omega
    have c1 : ((m1.toNat : Nat) : Int) = m1 := by omega
    have c2 : ((m2.toNat : Nat) : Int) = m2 := by omega
    obtain ⟨a0, a1, a2, a3, a4, a5, rfl⟩ : ∃ a0 a1 a2 a3 a4 a5, cs = [a0, a1, a2, a3, a4, a5] := by
      match cs, hl with
      | [a0, a1, a2, a3, a4, a5], _ => exact ⟨a0, a1, a2, a3, a4, a5, rfl⟩
    simp at k0 k1 k3 k4 e0 e1
    subst k0 k1 k3 k4 e0 e1
    simp [encD, c0, c1, c2]) hf' z
  cases hcs
  exact ⟨_, L, _, rfl, le_reach h1 yd_do h3, h5⟩
end
end Go.Proofs.YtjkihpbpnoelnaaGreatDoor
