/- ScriptTells: its argument; what the row lays. -/
import Derived.Test.YthangjgdjhhfgaaDoorScV6
import Derived.Test.YthangjgdjhhfgaaDoorRows
import Derived.Lib.LaidTab
import Derived.Stop.LaidErr
namespace Go.Proofs.YthangjgdjhhfgaaDoor
open Go.RowKit
set_option linter.unusedVariables false
theorem tab_of {W : World} {name : String} {k : IntKind} {zs : List Int} {g : Nat} (hg : Tryd.prog.globalNamed name = some g) (h : Lib.TabIs Tryd.prog W name k zs) (h0 : 0 < zs.length) : W.rangeAt g 0 (zs.map (Value.int k)) ∧ g < W.heap.size := by
  have hr : W.rangeAt g 0 (zs.map (Value.int k)) := fun j v hv => by
    have hj : j < zs.length := by simpa using (List.getElem?_eq_some_iff.1 hv).1
    rw [Nat.zero_add, h.cell hg j hj, ← hv]
    simp [hj]
  refine ⟨hr, ?_⟩
  have hc := h.cell hg 0 h0
  apply Classical.byContradiction
  intro hge
  simp [World.cell?, Array.getElem?_eq_none (Nat.le_of_not_lt hge)] at hc

structure Vars0 (W : World) : Prop where
  pow : Pow10 W
  err : ErrAt W
  g1 : 1 < W.heap.size
theorem tells_laid {W : World} (h : laidMet Tryd.prog Rows.scriptTellsRow.laid W) : Vars0 W := by
  have e3 : (Rows.laid_internal_strconv_uint64pow10 : DataW Unit) = Lib.tabData .u64 Lib.pow10Tab := by kernel_rfl
  simp only [Rows.scriptTellsRow] at h
  have h5 := h.tail.tail.tail.tail
  rw [e3] at h
  have t3 := Lib.tabIs_of_head (g:= 1) (by kernel_rfl) (by kernel_rfl) Tryd.underlying127 Tryd.underlying29 (by kernel_rfl) (by kernel_rfl) h.tail.tail
  refine ⟨t3, ?_, (tab_of (by kernel_rfl) t3 (by decide)).2⟩
  obtain ⟨a0, sa, hva, _, _, _⟩ := laid_sentinel (ti := 66) (tp := 152) (te := 154) (ts := 9) h5 (g := 5) (by kernel_rfl) (by kernel_rfl) Tryd.underlying66 err_row Tryd.underlying152 Tryd.underlying154 rfl rfl Tryd.underlying9 (by kernel_rfl) (by kernel_rfl)
  obtain ⟨b0, sb, hvb, _, _, _⟩ := laid_sentinel (ti := 66) (tp := 152) (te := 154) (ts := 9) h5.tail (g := 4) (by kernel_rfl) (by kernel_rfl) Tryd.underlying66 err_row Tryd.underlying152 Tryd.underlying154 rfl rfl Tryd.underlying9 (by kernel_rfl) (by kernel_rfl)
  exact ⟨⟨_, var_cell (by kernel_rfl) hvb, .inr ⟨_, _, rfl⟩⟩, _, var_cell (by kernel_rfl) hva, .inr ⟨_, _, rfl⟩⟩
theorem Vars0.vars {W : World} (h : Vars0 W) (hS : W.ShapedOpen Tryd.prog) : Vars W := by
  have hm := MaxLenAt.of hS
  refine ⟨h.pow, h.err, hm, h.g1, ?_, ?_⟩
  · obtain ⟨m, hm⟩ := hm
    exact lt_of_cell hm
  · obtain ⟨⟨_, h1, _⟩, _, h2, _⟩ := h.err
    exact ⟨lt_of_cell h1, lt_of_cell h2⟩
section
variable {H : Type} {enc : TypeId × Value → H} {P : Program} {w : World}
theorem open_fields0 {t : TypeId} {fs : Array Field} {nf fuel : Nat} {cs : List Value} {y : DataW H × List MemPlace} (he : P.underlying t = some (.struct fs)) (hnf : fs.size = nf) (hone : Deep.oneCellFields P fs = true)
    (h : DataW.trod enc P w 0 (fun _ => true) true fuel t cs = some y) (hl : cs.length = nf) :
    ∀ (j : Nat) (f : Field), fs[j]? = some f → ∃ (v : Value) (n : Nat) (z : DataW H × List MemPlace), cs[j]? = some v ∧ DataW.trod enc P w 0 (fun _ => true) true n f.type [v] = some z := by
  have hone' := Deep.hone_of hone
  obtain ⟨xs, n', _, rfl, _, hxl, hfld⟩ := DataW.trod_struct he h
  intro j f hj
  obtain ⟨ho, hc1⟩ := hone' j f hj
  have hjl : j < nf := by have := (Array.getElem?_eq_some_iff.1 hj).1; omega
  have h3 := hfld j f hj
  rw [ho, hc1, Deep.take1_drop _ _ undef (by omega)] at h3
  have hxj : xs[j]? = some (xs[j]'(by rw [hxl, hnf]; exact hjl)) := by simp
  exact ⟨cs.getD j undef, n', xs[j]'(by rw [hxl, hnf]; exact hjl), by simp [hl, hjl], by rw [h3]; exact hxj⟩
end
set_option maxRecDepth 100000 in
theorem open_result {H : Type} {enc : TypeId × Value → H} {w : World} {base : Nat} {v : Value} {d : DataW H} {q : List MemPlace} (o : Value.okWide Tryd.prog w .any base 32 v) (h : DataW.Trod enc Tryd.prog w 0 (fun _ => true) true 32 v d q) :
    ∃ (is : Bool) (e : Int) (id : Nat) (a : Option Addr) (n cap : Nat) (b : List UInt8) (en : Bool) (code : Nat), v = .agg #[.bool is, .int .i64 e, .int .u64 id, .slice a n cap, .bool en, .int .u64 code] ∧ BR w a n b ∧ n ≤ maxLen ∧ -9223372036854775808 ≤ e ∧ e ≤ 9223372036854775807 ∧ id ≤ 18446744073709551615 ∧ code ≤ 18446744073709551615 := by
  obtain ⟨cs, rfl, hcs⟩ := WideShapes.okWide_struct Tryd.underlying32 o
  obtain ⟨fuel, hf⟩ := h
  have hl : cs.toList.length = 6 := by
    have : (Tryd.prog).cellsOf 32 = 6 := by kernel_rfl
    rw [this] at hcs
    simpa using hcs
  have F := open_fields0 Tryd.underlying32 rfl (by kernel_rfl) (show DataW.trod enc Tryd.prog w 0 (fun _ => true) true fuel 32 cs.toList = some (d, q) by simpa [Value.cells] using hf) hl
  obtain ⟨v0, n0, z0, e0, t0⟩ := F 0 _ rfl
  obtain ⟨v1, n1, z1, e1, t1⟩ := F 1 _ rfl
  obtain ⟨v2, n2, z2, e2, t2⟩ := F 2 _ rfl
  obtain ⟨v3, n3, z3, e3, t3⟩ := F 3 _ rfl
  obtain ⟨v4, n4, z4, e4, t4⟩ := F 4 _ rfl
  obtain ⟨v5, n5, z5, e5, t5⟩ := F 5 _ rfl
  obtain ⟨b0, f0, _⟩ := DataW.trod_bool Tryd.underlying4 t0
  obtain ⟨k1, f1, _, w1⟩ := DataW.trod_int Tryd.underlying24 t1
  obtain ⟨k2, f2, _, w2⟩ := DataW.trod_int Tryd.underlying29 t2
  obtain ⟨a, L, cap, f3, hlen, hint, _⟩ := trod_intslice Tryd.underlying30 Tryd.underlying5 (by kernel_rfl) t3
  obtain ⟨b4, f4, _⟩ := DataW.trod_bool Tryd.underlying4 t4
  obtain ⟨k5, f5, _, w5⟩ := DataW.trod_int Tryd.underlying29 t5
  cases f0; cases f1; cases f2; cases f4; cases f5
  subst f3
  have hL : i8 (L.map fun n => UInt8.ofNat n.toNat) = L := by
    unfold i8
    rw [List.map_map]
    refine (List.map_congr_left (fun n hn => ?_)).trans (List.map_id L)
    have := bounds_u8 (hint.wf n hn)
    show ((UInt8.ofNat n.toNat).toNat : Int) = n
    rw [UInt8.toNat_ofNat']
    omega
  refine ⟨b0, k1, k2.toNat, a, L.length, cap, L.map fun n => UInt8.ofNat n.toNat, b4, k5.toNat, ?_, ⟨by rw [hL]; exact hint, by simp⟩, hlen, ?_, ?_, ?_, ?_⟩
  · have h2 := bounds_u64 w2
    have h5 := bounds_u64 w5
    have ha : cs = cs.toList.toArray := by simp
    rw [ha]
    obtain ⟨l⟩ := cs
    simp only at hl e0 e1 e2 e3 e4 e5 ⊢
    rw [show ((k2.toNat : Nat) : Int) = k2 by omega, show ((k5.toNat : Nat) : Int) = k5 by omega]
    congr 1
    have hl6 : l.length = 6 := hl
    refine congrArg List.toArray (List.ext_getElem? (fun i => ?_))
    match i with
    | 0 => simpa using e0
    | 1 => simpa using e1
    | 2 => simpa using e2
    | 3 => simpa using e3
    | 4 => simpa using e4
    | 5 => simpa using e5
    | i + 6 => rw [List.getElem?_eq_none (by omega)]; rfl
  · exact (bounds_i64 w1).1
  · exact (bounds_i64 w1).2
  · have := bounds_u64 w2; omega
  · have := bounds_u64 w5; omega
set_option maxRecDepth 100000 in
theorem walk_ScriptTells (H : Type) (enc : TypeId × Value → H) (w : World) (base : Nat) (v0 : Value) (d0 : DataW H) (p0 : List MemPlace)
    (o0 : Value.okWide Tryd.prog w .any base 32 v0) (h0 : DataW.Trod enc Tryd.prog w 0 (fun _ => true) true 32 v0 d0 p0)
    (hl : laidMet Tryd.prog Rows.scriptTellsRow.laid w) (hS : w.ShapedOpen Tryd.prog) :
    Calls Tryd.prog 4 #[v0] w fun e w' => e = .returned (.bool true) ∧ Below w.heap.size w w' := by
  obtain ⟨is, e, id, a, n, cap, b, en, code, rfl, hb, hn, h0, h1, hi, hc⟩ := open_result o0 h0
  exact tells_law is e id en code b a n cap w hb h0 h1 hi hc hn ((tells_laid hl).vars hS)
end Go.Proofs.YthangjgdjhhfgaaDoor
