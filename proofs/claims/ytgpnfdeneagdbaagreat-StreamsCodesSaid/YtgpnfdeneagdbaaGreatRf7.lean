/- The machine's writers: store, append, copy, clear. -/
import Derived.Test.YtgpnfdeneagdbaaGreatRf6
namespace Go.Proofs.YtgpnfdeneagdbaaGreat.Rf
open Go Go.RowKit
set_option linter.unusedVariables false
set_option linter.unusedSimpArgs false

variable {P : Program} {ρ : Ren} {W0 W W' : World} {hp hp' : Tr Blk} {n : Nat} {tm : Tr Value} {e : Operand → Value}

/-- a block that exists in the world already is bound anew -/
theorem WR.rebind (hw : WR W0 ρ hp n W) {b : Nat} (h0 : 0 < b) (hn : b < n) (hb : ρ b = none) {p : PB} (hp0 : W0.heap.size ≤ p.blk) (hp1 : p.blk < W.heap.size)
    (hfree : ∀ x q, ρ x = some q → Blk.live (hp.get x) = true → q.blk ≠ p.blk) {c : List Value} {g : Option Row} (hg : hp.get b = some (.cells c g))
    (hc : ∃ c', VRs ρ c c' ∧ W.rangeAt p.blk p.sh c' ∧ W.there p.blk p.sh c.length ∧ c.all Rf.one = true ∧ RoomOk W p g c.length)
    (hfz : ∀ C e fz, W.heap[p.blk]? = some (.cells C e fz) → fz.1 = fz.2 ∨ C.size ≤ fz.1) : WR W0 (ρ.set b p) hp n W := by
  have hmono := Ren.set_mono (p := p) hb
  have hof : ∀ x q, ρ.set b p x = some q → x = b ∧ q = p ∨ x ≠ b ∧ ρ x = some q := fun x q hx => by
    unfold Ren.set at hx
    split at hx
    · simp only [Option.some.injEq] at hx; exact .inl ⟨‹_›, hx.symm⟩
    · exact .inr ⟨‹_›, hx⟩
  refine ⟨hw.pos, fun x q hx => ?_, hw.fresh, hw.zero, fun x x' q q' hxx h1 h2 l1 l2 => ?_, fun x q c2 g2 hx hg2 => ?_, fun x q es k hx hg2 => ?_, hw.below, fun x q hx hl C e fz hC => ?_, hw.ro⟩
  · rcases hof x q hx with ⟨rfl, rfl⟩ | ⟨_, hx⟩
    · exact ⟨h0, hn, hp0, hp1⟩
    · exact hw.dom x q hx
  · rcases hof x q h1 with ⟨rfl, rfl⟩ | ⟨n1, k1⟩ <;> rcases hof x' q' h2 with ⟨rfl, rfl⟩ | ⟨n2, k2⟩
    · exact absurd rfl hxx
    · exact (hfree x' q' k2 l2).symm
    · exact hfree x q k1 l1
    · exact hw.inj x x' q q' hxx k1 k2 l1 l2
  · rcases hof x q hx with ⟨rfl, rfl⟩ | ⟨_, hx⟩
    · rw [hg] at hg2
      cases hg2
      obtain ⟨c', a1, a2⟩ := hc; exact ⟨c', a1.mono hmono, a2⟩
    · obtain ⟨c', a1, a2⟩ := hw.cells x q c2 g2 hx hg2
      exact ⟨c', a1.mono hmono, a2⟩
  · rcases hof x q hx with ⟨rfl, rfl⟩ | ⟨_, hx⟩
    · rw [hg] at hg2; cases hg2
    · obtain ⟨es', a1, a2⟩ := hw.maps x q es k hx hg2
      exact ⟨es', a1.mono hmono, a2⟩
  · rcases hof x q hx with ⟨rfl, rfl⟩ | ⟨_, hx⟩
    · exact hfz C e fz hC
    · exact hw.froz x q hx hl C e fz hC

/-- cells are written that the machine does not know -/
theorem WR.scribble (hw : WR W0 ρ hp n W) {k : Nat} (hk : W0.heap.size ≤ k) (hfree : ∀ x q, ρ x = some q → Blk.live (hp.get x) = true → q.blk ≠ k) (o : Nat) (vs : List Value) : WR W0 ρ hp n (W.setCells k o vs) := by
  refine ⟨hw.pos, fun x q hx => ?_, hw.fresh, hw.zero, hw.inj, fun x q c g hx hg => ?_, fun x q es j hx hg => ?_, hw.below.trans (Below.setCells hk _ _ _), fun x q hx hl C e fz hC => by
    obtain ⟨C', h2, h3⟩ := setCells_froz _ _ _ _ _ _ _ _ hC
    rw [← h3]; exact hw.froz x q hx hl C' e fz h2, hw.ro⟩
  · rw [World.setCells_size]; exact hw.dom x q hx
  · have hne := hfree x q hx (by rw [hg]; rfl)
    obtain ⟨c', a1, a2, a3, a4, a5⟩ := hw.cells x q c g hx hg
    exact ⟨c', a1, World.rangeAt_setCells_apart a2 _ _ _ (.inl hne), World.there_setCells a3 _ _ _, a4, a5.setCells _ _ _⟩
  · have hne := hfree x q hx (by rw [hg]; rfl)
    obtain ⟨es', a1, a2⟩ := hw.maps x q es j hx hg
    exact ⟨es', a1, by rw [World.setCells_heap _ _ _ _ _ hne]; exact a2⟩

theorem keep_of {b : Nat} {x : Blk} (hb : ρ b ≠ none) (hg : ∀ m, hp'.get m = if m = b then some x else hp.get m) : ∀ m, ρ m = none → hp'.get m = hp.get m := fun m hm => by
  rw [hg, if_neg]
  intro e; subst e; exact hb hm

/-- the cells of a part of a block are there -/
theorem there_sub {b s k : Nat} (h : W.there b s k) {o j : Nat} (hoj : o + j ≤ k) : W.there b (s + o) j := fun i hi => by
  have := h (o + i) (by omega)
  rwa [show s + (o + i) = s + o + i by omega] at this

theorem run_stores {b o : Nat} {vs : List Value} (ht : W.there b o vs.length) (h1 : ∀ v ∈ vs, v.oneCell' = true) : (storeCells ⟨b, o, none⟩ vs).run P W = .ok () (W.setCells b o vs) := by
  have := run_storeCells_cells (P := P) b o vs 0 W (by simpa using fun j hj => (ht j hj).1) (by simpa using fun j hj => (ht j hj).2) h1
  simpa using this

theorem storeA_sound {t : TypeId} {x v : Value} {K : Tr Blk → Bool} (h : storeA P hp t x v K = true) :
    ∃ hp', K hp' = true ∧ ∀ {ρ W0 W n x' v'}, WR W0 ρ hp n W → VR ρ x x' → VR ρ v v' → ∃ W', (Instr.storeAt t x' v').run P W = .ok () W' ∧ WR W0 ρ hp' n W' ∧ Ext ρ hp n ρ hp' n := by
  unfold storeA at h
  split at h
  · rename_i b o k hk
    split at h
    · rename_i c g hc
      cases ho : ((listOf v).length.beq k && (listOf v).all Rf.one) <;> simp only [ho, cond_true, cond_false] at h
      · cases h
      simp only [Bool.and_eq_true] at ho
      have hlen := Nat.eq_of_beq_eq_true ho.1
      split at h
      · rename_i r hr
        obtain ⟨hp', hK, hg⟩ := Tr.putK_ok _ _ _ _ _ h
        refine ⟨hp', hK, fun {ρ W0 W n x' v'} hw hx hv => ?_⟩
        obtain ⟨_, _, p, e1, hb, rfl⟩ := hx.ptr_inv
        simp only [Addr.mk.injEq] at e1
        obtain ⟨rfl, rfl, _⟩ := e1
        obtain ⟨I, hI, hs, h0⟩ := esz_sound hk
        obtain ⟨_, hl⟩ := setAt_eq _ _ _ _ hr
        obtain ⟨c', a1, a2, a3, a4, a5⟩ := hw.cells b p c g hb hc
        have hvl := hv.listOf.length
        have hst := hw.store hb hc hv.listOf ho.2 hr hg
        refine ⟨_, ?_, hst, Nat.le_refl _, fun _ _ => rfl, fun m _ hm => keep_of (by rw [hb]; simp) hg m hm⟩
        have hcl : v'.cells.size = (listOf v').length := by rw [← listOf_cells]; simp
        have hrun := run_stores (P := P) (W := W) (b := p.blk) (o := p.sh + o) (vs := listOf v') (there_sub a3 (by rw [← hvl]; exact hl)) (VRs.one hv.listOf ho.2)
        simp only [Instr.storeAt, Sem.run_bind, Instr.sureAddr, Sem.run_pure, Result.andThen_ok, storeVar, run_sizeOf_info hI W, hs]
        rw [if_neg (by rw [hcl, ← hvl, hlen]; simp), listOf_cells, Nat.add_comm o p.sh]
        exact hrun
      · cases h
    · cases h
  · cases h

/-- What an append does, by what its second argument yields. -/
structure Ap (P : Program) (W : World) (t tx : TypeId) (e : TypeId) (i : TypeInfo) (x : Value) (m : Nat) (new : List Value) : Prop where
  nothing : m = 0 → ∀ ty base len cap, len ≤ cap → (Builtin.append_ #[t, tx] ty #[.slice base len cap, x]).run P W = .ok (.slice base len cap) W
  room : ∀ ty b off len cap, len + m ≤ cap → 0 < m → W.there b (off + len * i.size) new.length →
    (Builtin.append_ #[t, tx] ty #[.slice (some ⟨b, off, none⟩) len cap, x]).run P W = .ok (.slice (some ⟨b, off, none⟩) (len + m) cap) (W.setCells b (off + len * i.size) new)
  grow : ∀ ty base len cap olds, 0 < m → (Builtin.firstCells i.size len (.slice base len cap)).run P W.drew = .ok ⟨olds⟩ W.drew → cap < len + m → len + m ≤ 1000000 → 2 * (len + m) * i.bytes ≤ 140737488355328 → m * i.bytes ≤ 140737488355328 →
    ∃ rest, rest.length = (grownCap W (len + m) cap e - (len + m)) * i.size ∧
    (Builtin.append_ #[t, tx] ty #[.slice base len cap, x]).run P W = .ok (.slice (some ⟨W.heap.size, 0, none⟩) (len + m) (grownCap W (len + m) cap e)) (W.drew.alloc (.cells ⟨olds ++ new ++ rest⟩ e))

theorem Ap.ofSrc {t tx el : TypeId} {i : TypeInfo} {z : Value} (ht : P.underlying t = some (.slice el)) (hi : P.info? el = some i) (hz : i.zero = some z) (hzs : z.cells.size = i.size) {x : Value} {m : Nat} {new : List Value} (hs : Src P i.size tx x m new W) : Ap P W t tx el i x m new := by
  refine ⟨fun h0 ty base len cap hle => ?_, fun ty b off len cap hle h0 hth => ?_, fun ty base len cap olds h0 hold hlt h1 h2 h3 => ?_⟩
  · subst h0
    have : new = [] := by have := hs.newsLen; simpa using this
    subst this
    rcases hs.kind with ⟨e', hk⟩ | hk <;> cases base <;> simp [Builtin.append_, run_underlying ht, run_underlying hk, sizeOf, typeInfo, hi, hs.len, hle, hs.cells, storeCells]
  · exact run_append_room_src W t tx ty el i ht hi b off len cap x m new hs hle (fun j hj => (hth j hj).1) (fun j hj => (hth j hj).2)
  · refine ⟨(Builtin.zeroCells z.cells (grownCap W (len + m) cap el - (len + m))).toList, ?_, ?_⟩
    · simp [size_zeroCells, hzs]
    · have hcap := nextslicecap_le hlt
      have := run_append_grow_src W t tx ty el i z ht hi hz base len cap olds hold x m new hs hlt (by omega) (by
        have := Nat.mul_le_mul_right i.bytes hcap
        omega)
      rw [this]
      congr 3
      apply Array.ext'
      simp

theorem Ap.ofZeros {t tx el : TypeId} {i : TypeInfo} {z : List Value} {zv : Value} {kn kq : IntKind} (ht : P.underlying t = some (.slice el)) (htx : P.underlying tx = some (.int kn)) (hi : P.info? el = some i) (hz : i.zero = some zv) (hzc : zv.cells = ⟨z⟩) (hzs : z.length = i.size) (h0 : 0 < i.size)
    (h1 : z.all Rf.one = true) {m : Nat} (hm : m ≤ 100000) (hb : m = 0 ∨ m * i.bytes ≤ 140737488355328) : Ap P W t tx el i (.int kq m) m (rep m z) := by
  have hw : IntKind.i64.wrap (m : Int) = m := by rw [IntKind.wrap_i64]; omega
  have hneg : ¬ ((m : Int) < 0) := by omega
  have h48i : ¬ (281474976710656 < (m : Int) * (i.bytes : Int)) := by
    rw [← Int.natCast_mul]
    rcases hb with rfl | hb
    · simp
    · omega
  refine ⟨fun h0 ty base len cap hle => ?_, fun ty b off len cap hle hm0 hth => ?_, fun ty base len cap olds hm0 hold hlt h3 h4 h5 => ?_⟩
  · subst h0
    cases base <;> simp [Builtin.append_, run_underlying ht, run_underlying htx, sizeOf, typeInfo, hi, asInt, asIntOf, hle, storeCells, show IntKind.i64.wrap 0 = 0 from rfl]
  · have hns : ¬ (m * i.size = 0) := Nat.mul_ne_zero (by omega) (by omega)
    have hst := run_stores (P := P) hth (fun v hv => one_cell (List.all_eq_true.1 (rep_all z _ h1 m) v hv))
    have hzr : Builtin.zeroCells zv.cells m = ⟨rep m z⟩ := by rw [hzc]; exact zeroCells_rep z (by omega) m
    simp [Builtin.append_, run_underlying ht, run_underlying htx, sizeOf, typeInfo, zeroValue, hi, hz, asInt, asIntOf, hw, hle, hneg, hns, h48i, hzr, Addr.add_lit, hst]
  · have hzr : Builtin.zeroCells zv.cells m = ⟨rep m z⟩ := by rw [hzc]; exact zeroCells_rep z (by omega) m
    refine ⟨(Builtin.zeroCells zv.cells (grownCap W (len + m) cap el - (len + m))).toList, by simp [size_zeroCells, hzc, hzs], ?_⟩
    have hcap := nextslicecap_le hlt
    have := Lib.run_append_grow_zeros W t tx ty el i zv kq kn ht htx hi hz base len cap olds hold m hm0 h0 hlt (by omega) (by omega) (by
      have := Nat.mul_le_mul_right i.bytes hcap
      omega)
    rw [this, hzr]
    congr 3
    apply Array.ext'
    simp

theorem elemsA_sound (hw : WR W0 ρ hp n W) {t tx el : TypeId} {size : Nat} {z : List Value} (ht : P.underlying t = some (.slice el)) (hk : esz P el = some size) (hz : zeroOf P el = some z) {x x' : Value} (hx : VR ρ x x') {m : Nat} {new : List Value}
    (h : elemsA P hp size el tx x = some (m, new)) (hb : m = 0 ∨ m * P.bytesOf el ≤ 140737488355328) : ∃ i new', P.info? el = some i ∧ i.size = size ∧ VRs ρ new new' ∧ new.all Rf.one = true ∧ new.length = m * size ∧ Ap P W t tx el i x' m new' := by
  obtain ⟨I, zv, hI, hzv, hzc, hzl, hsz, hfl⟩ := zeroOf_sound hz
  obtain ⟨J, hJ, hJs, hJ0⟩ := esz_sound hk
  rw [hI] at hJ
  cases hJ
  have hzs : zv.cells.size = I.size := by rw [hzc]; exact hzl
  have hby : P.bytesOf el = I.bytes := by simp [Program.bytesOf, hI]
  unfold elemsA at h
  split at h
  · rename_i e2 l c hu
    cases hl : l.beq 0 <;> simp only [hl, cond_true, cond_false] at h
    · cases h
    simp only [Option.some.injEq, Prod.mk.injEq] at h
    obtain ⟨rfl, rfl⟩ := h
    obtain rfl := Nat.eq_of_beq_eq_true hl
    obtain rfl := VR.of_flat rfl hx
    exact ⟨I, [], hI, hJs, .nil, rfl, by simp, Ap.ofSrc ht hI hzv hzs (hJs ▸ Src.ofNil W hu c)⟩
  · rename_i e2 a l c hu
    obtain ⟨a', c', rfl, hsp, hcc, hpl⟩ := hx.slice_inv
    cases hl : l.beq 0 <;> simp only [hl, cond_true, cond_false] at h
    · split at h
      · rename_i cs hcs
        simp only [Option.some.injEq, Prod.mk.injEq] at h
        obtain ⟨rfl, rfl⟩ := h
        rcases hpl with ⟨p, hρ, rfl, _⟩ | ⟨rfl, rfl, _⟩
        · obtain ⟨cs', h1, h2, h3, h4⟩ := cellsAt_sound hw hρ hcs
          refine ⟨I, cs', hI, hJs, h1, h4, h3, Ap.ofSrc ht hI hzv hzs (Src.ofSlice W hu _ l c' cs' (by rw [← h1.length, h3, hJs]) (fun j u hj => by rw [Addr.add_mid]; exact h2 j u hj) (VRs.one h1 h4))⟩
        · simp at hl
      · cases h
    · simp only [Option.some.injEq, Prod.mk.injEq] at h
      obtain ⟨rfl, rfl⟩ := h
      obtain rfl := Nat.eq_of_beq_eq_true hl
      exact ⟨I, [], hI, hJs, .nil, rfl, by simp, Ap.ofSrc ht hI hzv hzs (Src.ofSlice W hu a' 0 c' [] (by simp) (by simp) (by simp))⟩
  · rename_i s hu
    cases hl : size.beq 1 <;> simp only [hl, cond_true, cond_false] at h
    · cases h
    simp only [Option.some.injEq, Prod.mk.injEq] at h
    obtain ⟨rfl, rfl⟩ := h
    have hl := Nat.eq_of_beq_eq_true hl
    subst hl
    obtain rfl := VR.of_flat rfl hx
    refine ⟨I, _, hI, hJs, VRs.flat (bytes_flat _), flat_all_one (bytes_flat _), by simp, Ap.ofSrc ht hI hzv hzs (hJs ▸ Src.ofString W hu s)⟩
  · rename_i kn q m' hu
    split at h
    · rename_i z' hz'
      rw [hz] at hz'
      cases hz'
      cases hl : m'.ble 100000 <;> simp only [hl, cond_true, cond_false] at h
      · cases h
      simp only [Option.some.injEq, Prod.mk.injEq] at h
      obtain ⟨rfl, rfl⟩ := h
      simp only [Nat.ble_eq] at hl
      obtain rfl := hx.int_inv
      refine ⟨I, _, hI, hJs, VRs.flat (rep_all z _ hfl _), flat_all_one (rep_all z _ hfl _), by rw [rep_length, hzl, hJs], Ap.ofZeros ht hu hI hzv hzc hzl (by omega) (flat_all_one hfl) hl (by rw [← hby]; exact hb)⟩
    · cases h
  · cases h
end Go.Proofs.YtgpnfdeneagdbaaGreat.Rf
