/- Arguments that came in, opened: in our own words. -/
import Derived.Test.YtgpnfdeneagdbaaGreatBase
import Derived.ProofKit
import Derived.Deep.Slices
import Derived.Deep.Fields
import Derived.SizedLaws
namespace Go.Proofs.YtgpnfdeneagdbaaGreat
open Go.RowKit
set_option linter.unusedVariables false

section
variable {H : Type} {enc : TypeId × Value → H} {P : Program} {w : World} {base : Nat} {v : Value} {d : DataW H} {p : List MemPlace}

theorem open_intslice {t e : TypeId} {k : IntKind} (ht : P.underlying t = some (.slice e)) (he : P.underlying e = some (.int k)) (hc : P.cellsOf e = 1) (o : Value.okWide P w .any base t v)
    (h : DataW.Trod enc P w 0 (fun _ => true) true t v d p) : ∃ a L cap, v = .slice a L.length cap ∧ L.length ≤ maxLen ∧ IntsAt k w a L ∧ (a = none → cap = 0) := by
  obtain ⟨a, len, cap, rfl⟩ := WideShapes.okWide_slice ht o
  obtain ⟨fuel, hf⟩ := h
  rcases ChangeShapes.open_ints ht he hc hf with ⟨hcs, _⟩ | ⟨x, l, c, zs, hcs, _, hl, hm, hz, _, hcell, hwz⟩
  · simp [Value.cells] at hcs
    obtain ⟨rfl, rfl, rfl⟩ := hcs
    exact ⟨none, [], 0, rfl, by simp, IntsAt.nil _ _ _, fun _ => rfl⟩
  · simp [Value.cells] at hcs
    obtain ⟨rfl, rfl, rfl⟩ := hcs
    have hz' : zs.length = cap := by simpa using hz
    have hlen : (zs.take len).length = len := List.length_take_of_le (by omega)
    refine ⟨some x, zs.take len, cap, by rw [hlen], by rw [hlen]; omega, fun i hi => ?_, by simp⟩
    rw [hlen] at hi
    have h0 := hcell i (by omega)
    obtain ⟨b, off, spot⟩ := x
    have hspot : spot = none := by
      have := World.cell?_spot (hcell 0 (by omega))
      simpa [Addr.add] using this
    subst hspot
    rw [addr_add] at h0
    have e : (zs.take len).getD i 0 = zs.getD i 0 := by simp [List.getElem?_take_of_lt hi]
    refine ⟨b, off, rfl, World.block_lt_of_cell? w _ h0, by rw [e]; exact h0, ?_⟩
    rw [e, List.getD_eq_getElem?_getD, List.getElem?_eq_getElem (by omega : i < zs.length)]
    exact hwz _ (List.getElem_mem _)
/-- A slice of integers, out of the reading of its one cell. -/
theorem trod_intslice {t e : TypeId} {k : IntKind} {sp : Nat → Bool} {hd : Bool} {fuel : Nat} {x : DataW H × List MemPlace} (ht : P.underlying t = some (.slice e)) (he : P.underlying e = some (.int k)) (hc : P.cellsOf e = 1)
    (hf : DataW.trod enc P w 0 sp hd fuel t [v] = some x) : ∃ a L cap, v = .slice a L.length cap ∧ L.length ≤ maxLen ∧ IntsAt k w a L ∧ (a = none → cap = 0) := by
  rcases Deep.open_slice1 ht hc hf with ⟨hcs, _⟩ | ⟨x, l, c, m, n, V, D, Pl, hcs, _, hl, hm, hmm, _, hall⟩
  · cases hcs
    exact ⟨none, [], 0, rfl, by simp, IntsAt.nil _ _ _, fun _ => rfl⟩
  · cases hcs
    have hlm : l ≤ m := by rw [hmm]; split <;> omega
    have hlen : ((List.range l).map fun i => intOf (V i)).length = l := by simp
    refine ⟨some x, (List.range l).map fun i => intOf (V i), c, by rw [hlen], by rw [hlen]; omega, fun i hi => ?_, by simp⟩
    rw [hlen] at hi
    obtain ⟨h0, ht0⟩ := hall i (by omega)
    obtain ⟨b, off, spot⟩ := x
    have hspot : spot = none := by
      have := World.cell?_spot (hall 0 (by omega)).1
      simpa [Addr.add] using this
    subst hspot
    rw [addr_add] at h0
    obtain ⟨y, e0, _, wy⟩ := DataW.trod_int he ht0
    simp at e0
    have e : ((List.range l).map fun i => intOf (V i)).getD i 0 = y := by simp [hi, e0, intOf]
    exact ⟨b, off, rfl, World.block_lt_of_cell? w _ h0, by rw [e, ← e0]; exact h0, by rw [e]; exact wy⟩

/-- A slice of structs whose fields are one cell each: every field's cell, and its reading. -/
theorem open_structslice {t e : TypeId} {fs : Array Field} {nf : Nat} (ht : P.underlying t = some (.slice e)) (he : P.underlying e = some (.struct fs)) (hnf : fs.size = nf) (hone : Deep.oneCellFields P fs = true) (hC : P.cellsOf e = nf) (hpos : 0 < nf)
    (o : Value.okWide P w .any base t v) (h : DataW.Trod enc P w 0 (fun _ => true) true t v d p) :
    ∃ a len cap, ∃ V : Nat → Nat → Value, v = .slice a len cap ∧ len ≤ cap ∧ cap ≤ maxLen ∧ (a = none → len = 0 ∧ cap = 0) ∧ ∀ i, i < len → ∃ b off, a = some ⟨b, off, none⟩ ∧ b < w.heap.size ∧
      ∀ j f, fs[j]? = some f → w.cell? ⟨b, off + i * nf + j, none⟩ = some (V i j) ∧ ∃ (n : Nat) (y : DataW H × List MemPlace), DataW.trod enc P w 0 (fun _ => true) true n f.type [V i j] = some y := by
  obtain ⟨a, len, cap, rfl⟩ := WideShapes.okWide_slice ht o
  obtain ⟨fuel, hf⟩ := h
  have hone' := Deep.hone_of hone
  rcases Deep.open_slice ht hf with ⟨hcs, _⟩ | ⟨x, l, c, m, n, D, Pl, hcs, _, hl, hm, hmm, _, hall⟩
  · simp [Value.cells] at hcs
    obtain ⟨rfl, rfl, rfl⟩ := hcs
    exact ⟨none, 0, 0, fun _ _ => undef, rfl, by omega, by simp, fun _ => ⟨rfl, rfl⟩, fun i hi => by omega⟩
  · simp [Value.cells] at hcs
    obtain ⟨rfl, rfl, rfl⟩ := hcs
    have hlm : len ≤ m := by rw [hmm]; split <;> omega
    obtain ⟨b, off, spot⟩ := x
    have each : ∀ i, i < len → ∃ cs' : List Value, cs'.length = nf ∧ b < w.heap.size ∧ spot = none ∧ (∀ j v', cs'[j]? = some v' → w.cell? ⟨b, off + i * nf + j, none⟩ = some v') ∧ DataW.trod enc P w 0 (fun _ => true) true n e cs' = some (D i, Pl i) := by
      intro i hi
      obtain ⟨cs', h1, h2⟩ := hall i (by omega)
      obtain ⟨_, hlen, hcell⟩ := World.cells?_some h1
      rw [hC] at hlen hcell
      have hspot : spot = none := by
        obtain ⟨cs0, g1, _⟩ := hall 0 (by omega)
        obtain ⟨_, hlen0, hcell0⟩ := World.cells?_some g1
        rw [hC] at hlen0 hcell0
        have := hcell0 0 hpos
        rw [List.getElem?_eq_getElem (by omega)] at this
        have := World.cell?_spot this
        simpa [Addr.add] using this
      subst hspot
      have g : ∀ j v', cs'[j]? = some v' → w.cell? ⟨b, off + i * nf + j, none⟩ = some v' := by
        intro j v' hj
        have hjl : j < nf := by have := (List.getElem?_eq_some_iff.1 hj).1; omega
        have := hcell j hjl
        rw [hj, addr_add, addr_add] at this
        exact this
      refine ⟨cs', hlen, ?_, rfl, g, h2⟩
      have := g 0 (cs'[0]'(by omega)) (by simp)
      exact World.block_lt_of_cell? w _ this
    obtain ⟨CS, hCS⟩ := Deep.choose_lt each
    refine ⟨_, len, cap, fun i j => (CS i).getD j undef, rfl, hl, hm, by simp, fun i hi => ?_⟩
    obtain ⟨hlen, hb, rfl, hcell, htr⟩ := hCS i hi
    refine ⟨b, off, rfl, hb, fun j f hj => ?_⟩
    obtain ⟨ho, hc1⟩ := hone' j f hj
    have hjl : j < nf := by have := (Array.getElem?_eq_some_iff.1 hj).1; omega
    have hval : (CS i)[j]? = some ((CS i).getD j undef) := by simp [hlen, hjl]
    refine ⟨hcell j _ hval, ?_⟩
    obtain ⟨xs, n', _, _, _, hxl, hfld⟩ := DataW.trod_struct he htr
    have h3 := hfld j f hj
    rw [ho, hc1, Deep.take1_drop _ _ undef (by omega)] at h3
    exact ⟨n', xs[j]'(by rw [hxl, hnf]; exact hjl), by rw [h3]; simp⟩
theorem list1 {cs : List Value} {a : Value} (hl : cs.length = 1) (e0 : cs[0]? = some a) : cs = [a] := by
  match cs, hl with
  | [c0], _ => simp at e0; simp [e0]
theorem list2 {cs : List Value} {a b : Value} (hl : cs.length = 2) (e0 : cs[0]? = some a) (e1 : cs[1]? = some b) : cs = [a, b] := by
  match cs, hl with
  | [c0, c1], _ => simp at e0 e1; simp [e0, e1]
theorem list3 {cs : List Value} {a b c : Value} (hl : cs.length = 3) (e0 : cs[0]? = some a) (e1 : cs[1]? = some b) (e2 : cs[2]? = some c) : cs = [a, b, c] := by
  match cs, hl with
  | [c0, c1, c2], _ => simp at e0 e1 e2; simp [e0, e1, e2]
theorem list4 {cs : List Value} {a b c d : Value} (hl : cs.length = 4) (e0 : cs[0]? = some a) (e1 : cs[1]? = some b) (e2 : cs[2]? = some c) (e3 : cs[3]? = some d) : cs = [a, b, c, d] := by
  match cs, hl with
  | [c0, c1, c2, c3], _ => simp at e0 e1 e2 e3; simp [e0, e1, e2, e3]

/-- Nothing that the datum holds takes more bytes than a process has addresses. -/
def Sized (P : Program) (t : TypeId) (d : DataW H) : Prop := ∀ n ∈ d.weights P t, n ≤ reachBytes

theorem Sized.slice {t e : TypeId} {es sp : List (DataW H)} (hu : P.underlying t = some (.slice e)) (h : Sized P t (.slice es sp)) : (es.length + sp.length) * P.bytesOf e ≤ reachBytes ∧ ∀ d ∈ es, Sized P e d := by
  have key : ∀ (l : List (DataW H)) d, d ∈ l → ∀ n ∈ d.weights P e, n ∈ DataW.weightsAll P e l := by
    intro l
    induction l with
    | nil => intro d hd; cases hd
    | cons x l ih =>
      intro d hd n hn
      simp only [DataW.weightsAll, List.mem_append]
      rcases List.mem_cons.1 hd with rfl | hd
      · exact .inl hn
      · exact .inr (ih d hd n hn)
  refine ⟨h _ (by simp [DataW.weights, hu]), fun d hd n hn => h n ?_⟩
  simp only [DataW.weights, hu, List.mem_cons, List.mem_append]
  exact .inr (.inl (key es d hd n hn))
theorem Sized.field {t : TypeId} {fs : Array Field} {parts : List (DataW H)} (hu : P.underlying t = some (.struct fs)) (h : Sized P t (.agg parts)) {j : Nat} {f : Field} {d : DataW H} (hf : fs[j]? = some f) (hd : parts[j]? = some d) : Sized P f.type d := fun n hn => by
  refine h n ?_
  simp only [DataW.weights, hu]
  exact DataW.weights_mem_each (by simp [hf]) hd n hn

/-- A slice whose elements take 'size' cells each, and are these. -/
def SlOf {α : Type} (w : World) (a : Option Addr) (size : Nat) (R : α → List Value → Prop) (L : List α) : Prop :=
  ∀ i (h : i < L.length), ∃ b off cs, a = some ⟨b, off, none⟩ ∧ b < w.heap.size ∧ cs.length = size ∧ (∀ j v, cs[j]? = some v → w.cell? ⟨b, off + i * size + j, none⟩ = some v) ∧ R L[i] cs

theorem SlOf.below {α : Type} {w w' : World} {a : Option Addr} {size : Nat} {R R' : α → List Value → Prop} {L : List α} (h : SlOf w a size R L) (hb : Below w.heap.size w w') (hR : ∀ x cs, R x cs → R' x cs) : SlOf w' a size R' L := fun i hi => by
  obtain ⟨b, off, cs, ha, hlt, hl, hc, hr⟩ := h i hi
  exact ⟨b, off, cs, ha, Nat.lt_of_lt_of_le hlt hb.size, hl, fun j v hj => (hb.cell (p := ⟨b, off + i * size + j, none⟩) hlt).trans (hc j v hj), hR _ _ hr⟩

/-- A slice opened, element by element. -/
theorem open_slof {α : Type} {t e : TypeId} {size fuel : Nat} {cs : List Value} (R : α → List Value → Prop) (ht : P.underlying t = some (.slice e)) (hC : P.cellsOf e = size) (hpos : 0 < size)
    (conv : ∀ (n : Nat) (cs : List Value) (y : DataW H × List MemPlace), cs.length = size → DataW.trod enc P w 0 (fun _ => true) true n e cs = some y → Sized P e y.1 → ∃ x, R x cs)
    (h : DataW.trod enc P w 0 (fun _ => true) true fuel t cs = some (d, p)) (hz : Sized P t d) :
    ∃ a L cap, cs = [.slice a L.length cap] ∧ L.length ≤ cap ∧ cap ≤ maxLen ∧ cap * P.bytesOf e ≤ reachBytes ∧ (a = none → cap = 0) ∧ SlOf w a size R L := by
  rcases Deep.open_slice ht h with ⟨hcs, _⟩ | ⟨x, l, c, m, n, D, Pl, hcs, _, hl, hm, hmm, hx, hall⟩
  · subst hcs
    exact ⟨none, [], 0, rfl, by simp, by simp, by simp, fun _ => rfl, fun i hi => by simp at hi⟩
  · subst hcs
    simp only [if_true] at hmm
    obtain rfl : m = c := by simpa using hmm
    simp only [Prod.mk.injEq] at hx
    obtain ⟨rfl, _⟩ := hx
    obtain ⟨hz1, hz2⟩ := hz.slice ht
    simp only [List.length_map, List.length_range] at hz1
    obtain ⟨b, off, spot⟩ := x
    have each : ∀ i, i < l → ∃ q : List Value × α, q.1.length = size ∧ b < w.heap.size ∧ spot = none ∧ (∀ j v', q.1[j]? = some v' → w.cell? ⟨b, off + i * size + j, none⟩ = some v') ∧ R q.2 q.1 := by
      intro i hi
      obtain ⟨cs', h1, h2⟩ := hall i (by omega)
      obtain ⟨_, hlen, hcell⟩ := World.cells?_some h1
      rw [hC] at hlen hcell
      have hspot : spot = none := by
        obtain ⟨cs0, g1, _⟩ := hall 0 (by omega)
        obtain ⟨_, hlen0, hcell0⟩ := World.cells?_some g1
        rw [hC] at hlen0 hcell0
        have := hcell0 0 hpos
        rw [List.getElem?_eq_getElem (by omega)] at this
        have := World.cell?_spot this
        simpa [Addr.add] using this
      subst hspot
      have g : ∀ j v', cs'[j]? = some v' → w.cell? ⟨b, off + i * size + j, none⟩ = some v' := by
        intro j v' hj
        have hjl : j < size := by have := (List.getElem?_eq_some_iff.1 hj).1; omega
        have := hcell j hjl
        rw [hj, addr_add, addr_add] at this
        exact this
      obtain ⟨x, hx⟩ := conv n cs' (D i, Pl i) hlen h2 (hz2 _ (List.mem_map.2 ⟨i, List.mem_range.2 hi, rfl⟩))
      refine ⟨(cs', x), hlen, ?_, rfl, g, hx⟩
      have := g 0 (cs'[0]'(by omega)) (by simp)
      exact World.block_lt_of_cell? w _ this
    rcases Nat.eq_zero_or_pos l with rfl | hl0
    · exact ⟨some ⟨b, off, spot⟩, [], m, rfl, by simp, hm, by rw [show 0 + (m - 0) = m from by omega] at hz1; exact hz1, by simp, fun i hi => by simp at hi⟩
    · obtain ⟨q0, _⟩ := each 0 hl0
      haveI : Inhabited (List Value × α) := ⟨q0⟩
      obtain ⟨F, hF⟩ := Deep.choose_lt each
      have hlen : ((List.range l).map fun i => (F i).2).length = l := by simp
      refine ⟨some ⟨b, off, spot⟩, (List.range l).map fun i => (F i).2, m, by rw [hlen], by rw [hlen]; exact hl, hm, by rw [show l + (m - l) = m from by omega] at hz1; exact hz1, by simp, fun i hi => ?_⟩
      rw [hlen] at hi
      obtain ⟨h1, h2, rfl, h4, h5⟩ := hF i hi
      exact ⟨b, off, (F i).1, rfl, h2, h1, h4, by simpa using h5⟩

/-- A struct's fields, each of one cell. -/
theorem open_fields {t : TypeId} {fs : Array Field} {nf fuel : Nat} {cs : List Value} {y : DataW H × List MemPlace} (he : P.underlying t = some (.struct fs)) (hnf : fs.size = nf) (hone : Deep.oneCellFields P fs = true)
    (h : DataW.trod enc P w 0 (fun _ => true) true fuel t cs = some y) (hz : Sized P t y.1) (hl : cs.length = nf) :
    ∀ (j : Nat) (f : Field), fs[j]? = some f → ∃ (v : Value) (n : Nat) (z : DataW H × List MemPlace), cs[j]? = some v ∧ DataW.trod enc P w 0 (fun _ => true) true n f.type [v] = some z ∧ Sized P f.type z.1 := by
  have hone' := Deep.hone_of hone
  obtain ⟨xs, n', _, rfl, _, hxl, hfld⟩ := DataW.trod_struct he h
  intro j f hj
  obtain ⟨ho, hc1⟩ := hone' j f hj
  have hjl : j < nf := by have := (Array.getElem?_eq_some_iff.1 hj).1; omega
  have h3 := hfld j f hj
  rw [ho, hc1, Deep.take1_drop _ _ undef (by omega)] at h3
  have hxj : xs[j]? = some (xs[j]'(by rw [hxl, hnf]; exact hjl)) := by simp
  refine ⟨cs.getD j undef, n', xs[j]'(by rw [hxl, hnf]; exact hjl), by simp [hl, hjl], by rw [h3]; exact hxj, ?_⟩
  exact hz.field he hj (by simp [hxj])

/-- A slice of integers. -/
theorem open_ints_z {t e : TypeId} {k : IntKind} {fuel : Nat} {v : Value} {z : DataW H × List MemPlace} (ht : P.underlying t = some (.slice e)) (he : P.underlying e = some (.int k)) (hc : P.cellsOf e = 1)
    (h : DataW.trod enc P w 0 (fun _ => true) true fuel t [v] = some z) (hz : Sized P t z.1) :
    ∃ a L cap, v = .slice a L.length cap ∧ L.length ≤ cap ∧ cap ≤ maxLen ∧ cap * P.bytesOf e ≤ reachBytes ∧ (a = none → cap = 0) ∧ IntsAt k w a L := by
  obtain ⟨a, L, cap, hcs, h1, h2, h3, h4, h5⟩ := open_slof (α := Int) (fun n cs => cs = [.int k n] ∧ (Lit.int k n).wf = true) ht hc (by omega) (fun n cs y hl ht' _ => by
    obtain ⟨m, e0, _, wm⟩ := DataW.trod_int he ht'
    exact ⟨m, e0, wm⟩) h hz
  cases hcs
  refine ⟨a, L, cap, rfl, h1, h2, h3, h4, fun i hi => ?_⟩
  obtain ⟨b, off, cs, ha, hb, _, hcell, rfl, hw⟩ := h5 i hi
  have e : L.getD i 0 = L[i] := by simp [hi]
  exact ⟨b, off, ha, hb, by rw [e]; simpa using hcell 0 _ rfl, by rw [e]; exact hw⟩
end
end Go.Proofs.YtgpnfdeneagdbaaGreat
