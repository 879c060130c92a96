/- Trace: the arguments; the tables that the row lays. -/
import Derived.Test.YtfaopoaephlenaaDoorTr5
import Derived.Test.YtfaopoaephlenaaDoorArgs
import Derived.Lib.LaidTab
import Derived.Stop.LaidErr
namespace Go.Proofs.YtfaopoaephlenaaDoor
open Go.RowKit
set_option linter.unusedVariables false
section
variable {H : Type} {enc : TypeId × Value → H} {w : World} {base : Nat} {v : Value} {d : DataW H} {p : List MemPlace}
def evOf (V : Nat → Nat → Value) (i : Nat) : Ev := ⟨(intOf (V i 0)).toNat, (intOf (V i 1)).toNat, (intOf (V i 2)).toNat, (intOf (V i 3)).toNat⟩
set_option maxRecDepth 100000 in
theorem open_evs (o : Value.okWide Tryd.prog w .any base 22 v) (h : DataW.Trod enc Tryd.prog w 0 (fun _ => true) true 22 v d p) : ∃ a L cap, v = .slice a L.length cap ∧ Es w a cap L := by
  obtain ⟨a, len, cap, V, rfl, h1, h2, h3, hall⟩ := open_structslice (nf := 4) Tryd.underlying22 Tryd.underlying26 rfl (by kernel_rfl) (by kernel_rfl) (by omega) o h
  have each : ∀ i, i < len → ∃ b off, a = some ⟨b, off, none⟩ ∧ b < w.heap.size ∧ EvOk (evOf V i) ∧ ∀ j u, (encE (evOf V i))[j]? = some u → w.cell? ⟨b, off + i * 4 + j, none⟩ = some u := by
    intro i hi
    obtain ⟨b, off, ha, hb, hc⟩ := hall i hi
    obtain ⟨c0, n0, y0, t0⟩ := hc 0 _ rfl
    obtain ⟨c1, n1, y1, t1⟩ := hc 1 _ rfl
    obtain ⟨c2, n2, y2, t2⟩ := hc 2 _ rfl
    obtain ⟨c3, n3, y3, t3⟩ := hc 3 _ rfl
    obtain ⟨m0, e0, _, w0⟩ := DataW.trod_int Tryd.underlying24 t0
    obtain ⟨m1, e1, _, w1⟩ := DataW.trod_int Tryd.underlying24 t1
    obtain ⟨m2, e2, _, w2⟩ := DataW.trod_int Tryd.underlying24 t2
    obtain ⟨m3, e3, _, w3⟩ := DataW.trod_int Tryd.underlying5 t3
    simp at e0 e1 e2 e3
    have u0 := bounds_u64 w0
    have u1 := bounds_u64 w1
    have u2 := bounds_u64 w2
    have u3 := bounds_u8 w3
    have q0 : evOf V i = ⟨m0.toNat, m1.toNat, m2.toNat, m3.toNat⟩ := by unfold evOf; rw [e0, e1, e2, e3]; rfl
    rw [e0] at c0; rw [e1] at c1; rw [e2] at c2; rw [e3] at c3
    rw [q0]
    refine ⟨b, off, ha, hb, by unfold EvOk; simp only; omega, fun j u hj => ?_⟩
    match j with
    | 0 => simp [encE] at hj; rw [← hj, show max m0 0 = m0 by omega]; exact c0
    | 1 => simp [encE] at hj; rw [← hj, show max m1 0 = m1 by omega]; exact c1
    | 2 => simp [encE] at hj; rw [← hj, show max m2 0 = m2 by omega]; exact c2
    | 3 => simp [encE] at hj; rw [← hj, show max m3 0 = m3 by omega]; exact c3
    | j + 4 => simp [encE] at hj
  have hlen : ((List.range len).map (evOf V)).length = len := by simp
  refine ⟨a, (List.range len).map (evOf V), cap, by rw [hlen], ⟨fun i hi => ?_, fun ha => (h3 ha).2, by rw [hlen]; exact h1, h2, fun c hc => ?_⟩⟩
  · rw [hlen] at hi
    obtain ⟨b, off, ha, hb, _, hc⟩ := each i hi
    refine ⟨b, off, ha, hb, fun j u hj => ?_⟩
    have eg : ((List.range len).map (evOf V)).getD i default = evOf V i := by simp [hi]
    rw [eg] at hj
    exact hc j u hj
  · obtain ⟨i, hi, rfl⟩ := List.mem_map.1 hc
    obtain ⟨b, off, ha, hb, hk, _⟩ := each i (List.mem_range.1 hi)
    exact hk
end
theorem tab_of {W : World} {name : String} {k : IntKind} {zs : List Int} {g : Nat} (hg : Tryd.prog.globalNamed name = some g) (h : Lib.TabIs Tryd.prog W name k zs) (h0 : 0 < zs.length) : W.rangeAt g 0 (zs.map (Value.int k)) ∧ g < W.heap.size := by
  have hr : W.rangeAt g 0 (zs.map (Value.int k)) := fun j v hv => by
    have hj : j < zs.length := by simpa using (List.getElem?_eq_some_iff.1 hv).1
    rw [Nat.zero_add, h.cell hg j hj, ← hv]
    simp [hj]
  refine ⟨hr, ?_⟩
  have hc := h.cell hg 0 h0
  apply Classical.byContradiction
  intro hge
  simp [World.cell?, Array.getElem?_eq_none (Nat.le_of_not_lt hge)] at hc
theorem laid_tabs {W : World} (h : laidMet Tryd.prog Rows.traceTotalsRow.laid W) : ∀ g c, (g, c) ∈ tabs → W.rangeAt g 0 c ∧ g < W.heap.size := by
  intro g c hgc
  have e1 : (Rows.laid_math_bits_deBruijn32tab : DataW Unit) = Lib.tabData .u8 ns_laid_math_bits_deBruijn32tab := by kernel_rfl
  have e2 : (Rows.laid_math_bits_deBruijn64tab : DataW Unit) = Lib.tabData .u8 ns_laid_math_bits_deBruijn64tab := by kernel_rfl
  have e3 : (Rows.laid_internal_strconv_uint64pow10 : DataW Unit) = Lib.tabData .u64 ns_laid_internal_strconv_uint64pow10 := by kernel_rfl
  simp only [Rows.traceTotalsRow] at h
  rw [e1, e2, e3] at h
  simp only [tabs, List.mem_cons, List.mem_nil_iff, or_false, Prod.mk.injEq] at hgc
  rcases hgc with ⟨rfl, rfl⟩ | ⟨rfl, rfl⟩ | ⟨rfl, rfl⟩
  · exact tab_of (by kernel_rfl) (Lib.tabIs_of_head (g:= 6) (by kernel_rfl) (by kernel_rfl) Tryd.underlying55 Tryd.underlying5 (by kernel_rfl) (by kernel_rfl) h) (by decide)
  · exact tab_of (by kernel_rfl) (Lib.tabIs_of_head (g:= 7) (by kernel_rfl) (by kernel_rfl) Tryd.underlying197 Tryd.underlying5 (by kernel_rfl) (by kernel_rfl) h.tail) (by decide)
  · exact tab_of (by kernel_rfl) (Lib.tabIs_of_head (g:= 1) (by kernel_rfl) (by kernel_rfl) Tryd.underlying171 Tryd.underlying24 (by kernel_rfl) (by kernel_rfl) h.tail.tail) (by decide)
set_option maxRecDepth 100000 in
theorem walk_TraceTotals (H : Type) (enc : TypeId × Value → H) (w : World) (base : Nat) (v0 : Value) (d0 : DataW H) (p0 : List MemPlace) (v1 : Value) (d1 : DataW H) (p1 : List MemPlace)
    (o0 : Value.okWide Tryd.prog w .any base 22 v0) (h0 : DataW.Trod enc Tryd.prog w 0 (fun _ => true) true 22 v0 d0 p0)
    (o1 : Value.okWide Tryd.prog w .any base 22 v1) (h1 : DataW.Trod enc Tryd.prog w 0 (fun _ => true) true 22 v1 d1 p1)
    (hl : laidMet Tryd.prog Rows.traceTotalsRow.laid w) :
    Calls Tryd.prog 4 #[v0, v1] w fun e w' => e = .returned (.bool true) ∧ Below w.heap.size w w' := by
  obtain ⟨a, A, ca, rfl, hA⟩ := open_evs o0 h0
  obtain ⟨b, B, cb, rfl, hB⟩ := open_evs o1 h1
  exact totals_law a b ca cb _ _ A B w rfl rfl hA hB (laid_tabs hl)
end Go.Proofs.YtfaopoaephlenaaDoor
