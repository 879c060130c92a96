/- The machine's memory kept up: blocks laid, bound to the world's, written, and given up. -/
import Derived.Test.YtgpnfdeneagdbaaGreatRf4
import Derived.Deep.AppendSrc
import Derived.Lib.AppendZerosOnto
namespace Go.Proofs.YtgpnfdeneagdbaaGreat.Rf
open Go Go.RowKit
set_option linter.unusedVariables false
set_option linter.unusedSimpArgs false

variable {P : Program} {ρ : Ren} {W0 W W' : World} {hp hp' : Tr Blk} {n : Nat} {tm : Tr Value} {e : Operand → Value}

def Ren.set (ρ : Ren) (b : Nat) (p : PB) : Ren := fun x => if x = b then some p else ρ x

theorem Ren.set_same (ρ : Ren) (b : Nat) (p : PB) : ρ.set b p b = some p := by simp [Ren.set]
theorem Ren.set_other {ρ : Ren} {b x : Nat} {p : PB} (h : x ≠ b) : ρ.set b p x = ρ x := by simp [Ren.set, h]
theorem Ren.set_mono {ρ : Ren} {b : Nat} {p : PB} (h : ρ b = none) : ∀ x q, ρ x = some q → ρ.set b p x = some q := fun x q hx => by
  rw [Ren.set_other]
  · exact hx
  · intro e; subst e; rw [h] at hx; cases hx

theorem rangeAt_below {B b o : Nat} {cs : List Value} (hb : Below B W W') (hlt : b < B) (h : W.rangeAt b o cs) : W'.rangeAt b o cs := fun j v hv => by
  rw [hb.cell (p := ⟨b, o + j, none⟩) hlt]; exact h j v hv
theorem there_below {B b o k : Nat} (hb : Below B W W') (hlt : b < B) (h : W.there b o k) : W'.there b o k := fun j hj => by
  rw [hb.cell (p := ⟨b, o + j, none⟩) hlt, hb.frozen (p := ⟨b, o + j, none⟩) hlt]; exact h j hj

theorem RoomOk.below {B : Nat} {p : PB} {g : Option Row} {L : Nat} (h : RoomOk W p g L) (hb : Below B W W') (hlt : p.blk < B) : RoomOk W' p g L := fun es e x he => by
  obtain ⟨N, h1, h2, h3, h4⟩ := h es e x he
  refine ⟨N, h1, there_below hb hlt h2, ?_, h4⟩
  unfold World.shape? at h3 ⊢
  rw [hb.block _ hlt]; exact h3

/-- the machine lays a block; the world does not have it yet -/
theorem WR.lay (hw : WR W0 ρ hp n W) {x : Blk} (hg : ∀ m, hp'.get m = if m = n then some x else hp.get m) (hx : ∀ c, x ≠ .ro c := by intro c h; cases h) : WR W0 ρ hp' (n + 1) W := by
  have hne : ∀ b p, ρ b = some p → b ≠ n := fun b p hb e => by have := (hw.dom b p hb).2.1; omega
  have hgo : ∀ b p, ρ b = some p → hp'.get b = hp.get b := fun b p hb => by rw [hg, if_neg (hne b p hb)]
  refine ⟨by omega, fun b p hb => ?_, fun b hb => ?_, ?_, fun b b' p p' hbb h1 h2 l1 l2 => ?_, fun b p c g hb hc => ?_, fun b p es k hb hm => ?_, hw.below, fun b p hb hl => hw.froz b p hb (by rw [hgo b p hb] at hl; exact hl), fun g c hc => hw.ro g c (by
    rw [hg] at hc
    split at hc
    · cases hc; exact absurd rfl (hx c)
    · exact hc)⟩
  · obtain ⟨h1, h2, h3⟩ := hw.dom b p hb
    exact ⟨h1, by omega, h3⟩
  · rw [hg, if_neg (by omega)]; exact hw.fresh b (by omega)
  · have := hw.pos; rw [hg, if_neg (by omega)]; exact hw.zero
  · rw [hgo b p h1] at l1; rw [hgo b' p' h2] at l2; exact hw.inj b b' p p' hbb h1 h2 l1 l2
  · rw [hgo b p hb] at hc; exact hw.cells b p c g hb hc
  · rw [hgo b p hb] at hm; exact hw.maps b p es k hb hm

/-- the world makes a block that the machine has laid -/
theorem WR.bind (hw : WR W0 ρ hp n W) {b : Nat} (h0 : 0 < b) (hn : b < n) (hb : ρ b = none) {p : PB} (hp1 : p.blk = W.heap.size) (hsz : W.heap.size < W'.heap.size) (hbel : Below W.heap.size W W')
    (hc : ∀ c g, hp.get b = some (.cells c g) → ∃ c', VRs ρ c c' ∧ W'.rangeAt p.blk p.sh c' ∧ W'.there p.blk p.sh c.length ∧ c.all Rf.one = true ∧ RoomOk W' p g c.length)
    (hm : ∀ es k, hp.get b = some (.map es k) → ∃ es', MRs ρ es es' ∧ W'.heap[p.blk]? = some (.map ⟨es'⟩ k))
    (hfz : Blk.live (hp.get b) = true → ∀ C e fz, W'.heap[p.blk]? = some (.cells C e fz) → fz.1 = fz.2 ∨ C.size ≤ fz.1) : WR W0 (ρ.set b p) hp n W' := by
  have hmono := Ren.set_mono (p := p) hb
  have hW0 : W0.heap.size ≤ W.heap.size := hw.below.size
  have hof : ∀ x q, ρ.set b p x = some q → x = b ∧ q = p ∨ x ≠ b ∧ ρ x = some q := fun x q hx => by
    unfold Ren.set at hx
    split at hx
    · simp only [Option.some.injEq] at hx; exact .inl ⟨‹_›, hx.symm⟩
    · exact .inr ⟨‹_›, hx⟩
  refine ⟨hw.pos, fun x q hx => ?_, hw.fresh, hw.zero, fun x x' q q' hxx h1 h2 l1 l2 => ?_, fun x q c g hx hg => ?_, fun x q es k hx hg => ?_, hw.below.trans (hbel.mono hW0), fun x q hx hl C e fz hC => ?_, hw.ro⟩
  · rcases hof x q hx with ⟨rfl, rfl⟩ | ⟨_, hx⟩
    · exact ⟨h0, hn, by omega, by omega⟩
    · obtain ⟨a1, a2, a3, a4⟩ := hw.dom x q hx; exact ⟨a1, a2, a3, by omega⟩
  · rcases hof x q h1 with ⟨rfl, rfl⟩ | ⟨n1, k1⟩ <;> rcases hof x' q' h2 with ⟨rfl, rfl⟩ | ⟨n2, k2⟩
    · exact absurd rfl hxx
    · have := (hw.dom x' q' k2).2.2.2; omega
    · have := (hw.dom x q k1).2.2.2; omega
    · exact hw.inj x x' q q' hxx k1 k2 l1 l2
  · rcases hof x q hx with ⟨rfl, rfl⟩ | ⟨_, hx⟩
    · obtain ⟨c', a1, a2⟩ := hc c g hg; exact ⟨c', a1.mono hmono, a2⟩
    · have hlt := (hw.dom x q hx).2.2.2
      obtain ⟨c', a1, a2, a3, a4, a5⟩ := hw.cells x q c g hx hg
      exact ⟨c', a1.mono hmono, rangeAt_below hbel hlt a2, there_below hbel hlt a3, a4, a5.below hbel hlt⟩
  · rcases hof x q hx with ⟨rfl, rfl⟩ | ⟨_, hx⟩
    · obtain ⟨es', a1, a2⟩ := hm es k hg; exact ⟨es', a1.mono hmono, a2⟩
    · have hlt := (hw.dom x q hx).2.2.2
      obtain ⟨es', a1, a2⟩ := hw.maps x q es k hx hg
      exact ⟨es', a1.mono hmono, by rw [hbel.block _ hlt]; exact a2⟩
  · rcases hof x q hx with ⟨rfl, rfl⟩ | ⟨_, hx⟩
    · exact hfz hl C e fz hC
    · have hlt := (hw.dom x q hx).2.2.2
      rw [hbel.block _ hlt] at hC
      exact hw.froz x q hx hl C e fz hC

theorem World.setCells_heap (b : Nat) : ∀ (vs : List Value) (o : Nat) (w : World) (k : Nat), k ≠ b → (w.setCells b o vs).heap[k]? = w.heap[k]?
  | [], _, _, _, _ => rfl
  | v :: r, o, w, k, h => by rw [World.setCells, World.setCells_heap b r _ _ k h, Below.heap_setCell _ _ _ _ h]
theorem World.setCells_size (b : Nat) : ∀ (vs : List Value) (o : Nat) (w : World), (w.setCells b o vs).heap.size = w.heap.size
  | [], _, _ => rfl
  | v :: r, o, w => by rw [World.setCells, World.setCells_size b r]; simp [World.setCell]
theorem Below.setCells {B b : Nat} (hb : B ≤ b) : ∀ (vs : List Value) (o : Nat) (w : World), Below B w (w.setCells b o vs)
  | [], _, _ => Below.refl _ _
  | v :: r, o, w => ((Below.refl B w).setCell (p := ⟨b, o, none⟩) hb v).trans (Below.setCells hb r (o + 1) _)

/-- a write leaves a block's size and its frozen part -/
theorem setCells_froz (b : Nat) : ∀ (vs : List Value) (o : Nat) (w : World) (k : Nat) (C : Array Value) (e : TypeId) (fz : Nat × Nat), (w.setCells b o vs).heap[k]? = some (.cells C e fz) → ∃ C', w.heap[k]? = some (.cells C' e fz) ∧ C'.size = C.size
  | [], _, _, _, C, _, _, h => ⟨C, h, rfl⟩
  | v :: r, o, w, k, C, e, fz, h => by
    obtain ⟨C1, h1, h2⟩ := setCells_froz b r (o + 1) _ k C e fz h
    simp only [World.setCell, Array.getElem?_modify] at h1
    split at h1
    · cases hk : w.heap[k]? with
      | none => rw [hk] at h1; cases h1
      | some ob =>
        rw [hk] at h1
        simp only [Option.map_some, Option.some.injEq] at h1
        cases ob with
        | cells c el f =>
          simp only [Obj.cells.injEq] at h1
          obtain ⟨h3, rfl, rfl⟩ := h1
          refine ⟨c, rfl, ?_⟩
          rw [← h2, ← h3]
          simp
        | _ => cases h1
    · exact ⟨C1, h1, h2⟩

theorem setCell_shape (w : World) (a : Addr) (v : Value) (k : Nat) : (w.setCell a v).shape? k = w.shape? k := by
  by_cases h : a.block = k
  · have hm := Array.getElem?_modify (xs := w.heap) (i := a.block) (j := k) (f := fun
      | .cells c elem fz => .cells (if a.spot.isSome then c else c.setIfInBounds a.off v) elem fz
      | o => o)
    rw [if_pos h] at hm
    have hm2 : (w.setCell a v).heap[k]? = _ := hm
    unfold World.shape?
    rw [hm2]
    cases w.heap[k]? with
    | none => rfl
    | some ob =>
      cases ob with
      | cells c el fz => simp only [Option.map_some]; split <;> simp
      | _ => rfl
  · unfold World.shape?
    rw [show (w.setCell a v).heap[k]? = w.heap[k]? from Below.heap_setCell _ _ _ _ (Ne.symm h)]
theorem setCells_shape (b : Nat) : ∀ (vs : List Value) (o : Nat) (w : World) (k : Nat), (w.setCells b o vs).shape? k = w.shape? k
  | [], _, _, _ => rfl
  | v :: r, o, w, k => by rw [World.setCells, setCells_shape b r, setCell_shape]
theorem RoomOk.setCells {p : PB} {g : Option Row} {L : Nat} (h : RoomOk W p g L) (b o : Nat) (vs : List Value) : RoomOk (W.setCells b o vs) p g L := fun es e x he => by
  obtain ⟨N, h1, h2, h3, h4⟩ := h es e x he
  exact ⟨N, h1, World.there_setCells h2 _ _ _, by rw [setCells_shape]; exact h3, h4⟩

/-- cells are written -/
theorem WR.store (hw : WR W0 ρ hp n W) {b : Nat} {p : PB} (hb : ρ b = some p) {c : List Value} {g : Option Row} (hc : hp.get b = some (.cells c g)) {o : Nat} {vs vs' r : List Value} (hvs : VRs ρ vs vs') (h1 : vs.all Rf.one = true)
    (hr : setAt c o vs = some r) (hg : ∀ m, hp'.get m = if m = b then some (.cells r g) else hp.get m) : WR W0 ρ hp' n (W.setCells p.blk (p.sh + o) vs') := by
  obtain ⟨rfl, hl⟩ := setAt_eq _ _ _ _ hr
  have hdom := hw.dom b p hb
  have hlen := hvs.length
  obtain ⟨c', a1, a2, a3, a4, a5⟩ := hw.cells b p c g hb hc
  have hcl := a1.length
  refine ⟨hw.pos, fun x q hx => ?_, fun x hx => ?_, ?_, fun x x' q q' hxx k1 k2 l1 l2 => ?_, fun x q c2 g2 hx hg2 => ?_, fun x q es k hx hg2 => ?_, hw.below.trans (Below.setCells hdom.2.2.1 _ _ _), fun x q hx hl C e fz hC => by
    obtain ⟨C', h2, h3⟩ := setCells_froz _ _ _ _ _ _ _ _ hC
    rw [← h3]
    refine hw.froz x q hx ?_ C' e fz h2
    rw [hg] at hl
    split at hl
    · subst x; rw [hc]; rfl
    · exact hl, fun g2 c2 hc2 => hw.ro g2 c2 (by
    rw [hg] at hc2
    split at hc2
    · cases hc2
    · exact hc2)⟩
  · rw [World.setCells_size]; exact hw.dom x q hx
  · rw [hg, if_neg (by omega)]; exact hw.fresh x hx
  · rw [hg, if_neg (by omega)]; exact hw.zero
  · have live : ∀ y q, ρ y = some q → Blk.live (hp'.get y) = true → Blk.live (hp.get y) = true := fun y q hy hl => by
      rw [hg] at hl
      split at hl
      · subst y; rw [hc]; rfl
      · exact hl
    exact hw.inj x x' q q' hxx k1 k2 (live x q k1 l1) (live x' q' k2 l2)
  · rw [hg] at hg2
    split at hg2
    · subst x
      rw [hb] at hx
      cases hx
      cases hg2
      refine ⟨c'.take o ++ vs' ++ c'.drop (o + vs.length), ((a1.take o).append hvs).append (a1.drop _), ?_, ?_, ?_, ?_⟩
      · intro j v hv
        have ht : W.there p.blk (p.sh + o) vs'.length := fun i hi => by have := a3 (o + i) (by omega); rwa [show p.sh + (o + i) = p.sh + o + i by omega] at this
        by_cases h2 : j < o
        · rw [World.cell?_setCells_out _ _ _ _ _ (fun _ _ => .inl (by simp only; omega))]
          refine a2 j v ?_
          rw [List.append_assoc, List.getElem?_append_left (by simp; omega), List.getElem?_take, if_pos h2] at hv
          exact hv
        · by_cases h3 : j < o + vs.length
          · have hin := World.cell?_setCells_in p.blk vs' (p.sh + o) W (fun i hi => (ht i hi).1) (j - o) (by omega)
            rw [show p.sh + o + (j - o) = p.sh + j by omega] at hin
            rw [hin]
            rw [List.append_assoc, List.getElem?_append_right (by simp; omega), List.getElem?_append_left (by simp; omega)] at hv
            have : (c'.take o).length = o := by simp; omega
            rw [this] at hv
            rw [← List.getElem?_eq_getElem]
            exact hv
          · rw [World.cell?_setCells_out _ _ _ _ _ (fun _ _ => .inr (by simp only; omega))]
            refine a2 j v ?_
            rw [List.getElem?_append_right (by simp; omega), List.getElem?_drop] at hv
            have e1 : (c'.take o ++ vs').length = o + vs.length := by simp; omega
            rw [e1, show o + vs.length + (j - (o + vs.length)) = j by omega] at hv
            exact hv
      · have e1 : (c.take o ++ vs ++ c.drop (o + vs.length)).length = c.length := by simp; omega
        rw [e1]
        exact World.there_setCells a3 _ _ _
      · rw [List.all_eq_true] at a4 h1 ⊢
        intro v hv
        rw [List.mem_append, List.mem_append] at hv
        rcases hv with (hv | hv) | hv
        · exact a4 v (List.mem_of_mem_take hv)
        · exact h1 v hv
        · exact a4 v (List.mem_of_mem_drop hv)
      · have e1 : (c.take o ++ vs ++ c.drop (o + vs.length)).length = c.length := by simp; omega
        rw [e1]
        exact a5.setCells _ _ _
    · obtain ⟨c2', b1, b2, b3, b4, b5⟩ := hw.cells x q c2 g2 hx hg2
      have hne : q.blk ≠ p.blk := hw.inj x b q p ‹_› hx hb (by rw [hg2]; rfl) (by rw [hc]; rfl)
      exact ⟨c2', b1, World.rangeAt_setCells_apart b2 _ _ _ (.inl hne), World.there_setCells b3 _ _ _, b4, b5.setCells _ _ _⟩
  · rw [hg] at hg2
    split at hg2
    · cases hg2
    · obtain ⟨es', b1, b2⟩ := hw.maps x q es k hx hg2
      have hne : q.blk ≠ p.blk := hw.inj x b q p ‹_› hx hb (by rw [hg2]; rfl) (by rw [hc]; rfl)
      exact ⟨es', b1, by rw [World.setCells_heap _ _ _ _ _ hne]; exact b2⟩

/-- a block is given up -/
theorem WR.kill (hw : WR W0 ρ hp n W) {b : Nat} (h0 : 0 < b) (hn : b < n) (hg : ∀ m, hp'.get m = if m = b then some .dead else hp.get m) : WR W0 ρ hp' n W := by
  have live : ∀ y, Blk.live (hp'.get y) = true → Blk.live (hp.get y) = true := fun y hl => by
    rw [hg] at hl
    split at hl
    · cases hl
    · exact hl
  refine ⟨hw.pos, hw.dom, fun x hx => ?_, ?_, fun x x' q q' hxx k1 k2 l1 l2 => hw.inj x x' q q' hxx k1 k2 (live x l1) (live x' l2), fun x q c g hx hc => ?_, fun x q es k hx hm => ?_, hw.below, fun x q hx hl => hw.froz x q hx (live x hl), fun g2 c2 hc2 => hw.ro g2 c2 (by
    rw [hg] at hc2
    split at hc2
    · cases hc2
    · exact hc2)⟩
  · rw [hg, if_neg (by omega)]; exact hw.fresh x hx
  · rw [hg, if_neg (by omega)]; exact hw.zero
  · rw [hg] at hc; split at hc
    · cases hc
    · exact hw.cells x q c g hx hc
  · rw [hg] at hm; split at hm
    · cases hm
    · exact hw.maps x q es k hx hm

/-- the world draws -/
theorem WR.drew (hw : WR W0 ρ hp n W) (k : Nat) : WR W0 ρ hp n { W with drawn := k } :=
  ⟨hw.pos, hw.dom, hw.fresh, hw.zero, hw.inj, hw.cells, hw.maps, ⟨hw.below.os, hw.below.tape, hw.below.output, hw.below.size, hw.below.block⟩, hw.froz, hw.ro⟩
end Go.Proofs.YtgpnfdeneagdbaaGreat.Rf
