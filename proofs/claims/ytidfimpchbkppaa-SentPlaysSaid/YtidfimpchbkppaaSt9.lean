/- Sent: the law's invariant in plain Lean; Ack for the law. -/
import Derived.Test.YtidfimpchbkppaaSt7
import Derived.Test.YtidfimpchbkppaaSt8
namespace Go.Proofs.Ytidfimpchbkppaa
open Go.RowKit
set_option linter.unusedVariables false

def pns (L : List Pk) : List Int := L.map (·.pn)
/-- What the law's loop keeps: L is on its way, A was added, T was told. -/
structure SI (L : List Pk) (lg top : Int) (A T : List Int) : Prop where
  asc : (pns L).Pairwise (· < ·)
  low : ∀ p ∈ L, p.pn < top
  alow : ∀ x ∈ A, x < top
  nd : A.Nodup
  perm : (T ++ pns L).Perm A
  at_ : ∀ p ∈ L, p.at_ ≤ 4611686018427387904
  aft : ∀ p ∈ L, p.after ≤ T.length
  awf : ∀ x ∈ A, 0 ≤ x ∧ x ≤ 18446744073709551615
  ulg : u64b' lg
  utop : u64b' top
theorem SI.start : SI [] 0 0 [] [] := ⟨by simp [pns], by simp, by simp, by simp, by simp [pns], by simp, by simp, by simp, by unfold u64b'; omega, by unfold u64b'; omega⟩
theorem SI.len {L : List Pk} {lg top : Int} {A T : List Int} (h : SI L lg top A T) : T.length + L.length = A.length := by
  have := h.perm.length_eq
  simpa [pns] using this
theorem SI.twf {L : List Pk} {lg top : Int} {A T : List Int} (h : SI L lg top A T) : ∀ x ∈ T ++ pns L, 0 ≤ x ∧ x ≤ 18446744073709551615 := fun x hx => h.awf x (h.perm.mem_iff.1 hx)
theorem SI.add {L : List Pk} {lg top : Int} {A T : List Int} (h : SI L lg top A T) (p : Pk) (h1 : ¬ p.pn < top) (h2 : ¬ 4611686018427387903 < p.pn) (h3 : p.at_ ≤ 4611686018427387904) (h0 : p.after = 0) : SI (L ++ [p]) lg (p.pn + 1) (A ++ [p.pn]) T := by
  have ht := h.utop
  unfold u64b' at ht
  refine ⟨?_, ?_, ?_, ?_, ?_, ?_, ?_, ?_, h.ulg, by unfold u64b'; omega⟩
  · unfold pns
    rw [List.map_append]
    refine List.pairwise_append.2 ⟨h.asc, by simp, fun x hx y hy => ?_⟩
    obtain ⟨q, hq, rfl⟩ := List.mem_map.1 hx
    have := h.low q hq
    simp at hy
    omega
  · intro q hq
    rcases List.mem_append.1 hq with hq | hq
    · have := h.low q hq; omega
    · rw [List.mem_singleton.1 hq]; omega
  · intro q hq
    rcases List.mem_append.1 hq with hq | hq
    · have := h.alow q hq; omega
    · rw [List.mem_singleton.1 hq]; omega
  · refine List.nodup_append.2 ⟨h.nd, by simp, fun x hx y hy e => ?_⟩
    have := h.alow x hx
    simp at hy
    omega
  · have e : T ++ pns (L ++ [p]) = (T ++ pns L) ++ [p.pn] := by simp [pns]
    rw [e]
    exact h.perm.append_right _
  · intro q hq
    rcases List.mem_append.1 hq with hq | hq
    · exact h.at_ q hq
    · rw [List.mem_singleton.1 hq]; exact h3
  · intro q hq
    rcases List.mem_append.1 hq with hq | hq
    · exact h.aft q hq
    · rw [List.mem_singleton.1 hq, h0]; omega
  · intro x hx
    rcases List.mem_append.1 hx with hx | hx
    · exact h.awf x hx
    · rw [List.mem_singleton.1 hx]; omega
theorem perm_take (L : List Pk) (q : Pk → Bool) : (pns (L.filter q) ++ pns (L.filter fun p => !q p)).Perm (pns L) := by
  unfold pns
  rw [← List.map_append]
  exact (List.filter_append_perm q L).map _
/-- Packets are taken; the others may be told that they were overtaken. -/
theorem SI.take {L : List Pk} {lg top : Int} {A T : List Int} (h : SI L lg top A T) (q : Pk → Bool) (f : Pk → Pk) (hf : ∀ p, (f p).pn = p.pn ∧ (f p).at_ = p.at_ ∧ (f p).after ≤ p.after + (L.filter q).length) {lg' : Int} (hl : u64b' lg') :
    SI ((L.filter fun p => !q p).map f) lg' top A (T ++ pns (L.filter q)) := by
  have ep : pns ((L.filter fun p => !q p).map f) = pns (L.filter fun p => !q p) := by
    unfold pns
    rw [List.map_map]
    exact List.map_congr_left fun p _ => (hf p).1
  refine ⟨?_, ?_, h.alow, h.nd, ?_, ?_, ?_, h.awf, hl, h.utop⟩
  · rw [ep]
    exact h.asc.sublist (List.filter_sublist.map _)
  · intro p hp
    obtain ⟨r, hr, rfl⟩ := List.mem_map.1 hp
    rw [(hf r).1]
    exact h.low r (List.mem_filter.1 hr).1
  · rw [ep, List.append_assoc]
    exact ((perm_take L q).append_left T).trans h.perm
  · intro p hp
    obtain ⟨r, hr, rfl⟩ := List.mem_map.1 hp
    rw [(hf r).2.1]
    exact h.at_ r (List.mem_filter.1 hr).1
  · intro p hp
    obtain ⟨r, hr, rfl⟩ := List.mem_map.1 hp
    have h1 := (hf r).2.2
    have h2 := h.aft r (List.mem_filter.1 hr).1
    simp [pns]
    omega
theorem SI.out {L : List Pk} {lg top : Int} {A T : List Int} (h : SI L lg top A T) (q : Pk → Bool) : (pns (L.filter q)).Pairwise (· < ·) := h.asc.sublist (List.filter_sublist.map _)
theorem pns_get {L : List Pk} {i : Nat} (hi : i < L.length) : (pns L)[i]? = some (L.getD i default).pn := by simp [pns, hi]
theorem asc_next {L : List Pk} (h : (pns L).Pairwise (· < ·)) {i : Nat} (hi : i + 1 < L.length) : (L.getD i default).pn < (L.getD (i + 1) default).pn := by
  have h1 := (List.pairwise_iff_getElem.1 h) i (i + 1) (by simp [pns]; omega) (by simp [pns]; omega) (by omega)
  simpa [pns, hi, show i < L.length by omega] using h1
theorem pns_take_succ {L : List Pk} {i : Nat} (hi : i < L.length) : pns (L.take (i + 1)) = pns (L.take i) ++ [(L.getD i default).pn] := by
  unfold pns
  rw [List.take_add_one, List.getElem?_eq_getElem hi, List.map_append]
  simp [hi]

/-- What Ack does for the law. -/
theorem sack_once (b : Nat) (F : Nat → Prop) (al0 : Option Addr) (nl0 cl0 : Nat) (l : List Rg) (L : List Pk) (has : Bool) (lg la lt top : Int) (w : World) (h : SS w b F L has lg la lt top) (hF : Hid (∀ z, w.heap.size ≤ z → F z)) (hl : L.length ≤ 1000) (hg : u64b' lg) (ht : u64b' top) (hnl : nl0 = l.length) (hR : Rs w al0 cl0 l) (hll : l.length ≤ 1000) (haf : ∀ p ∈ L, p.after ≤ 1000000) :
    Calls Try.prog 40 #[.pointer (some ⟨b, 0, none⟩), .slice al0 nl0 cl0] w fun e w' => Only (· = b) w w' ∧ ∃ (v : Value) (z : Int) (q : Pk → Bool) (has' : Bool) (lg' : Int), e = .returned (.tuple #[v, .int .i64 z]) ∧
      Told15 w w' v (L.filter q) ∧ SS w' b F ((L.filter fun p => !q p).map (bump (L.filter q))) has' lg' la lt top ∧ u64b' lg' := by
  refine (sack_any b F al0 nl0 cl0 l L has lg la lt top w h hF hl hg ht hnl hR hll haf).mono ?_
  rintro e w' ⟨M, hM, hor⟩
  have ez : L.filter (fun _ => false) = [] := List.filter_eq_nil_iff.2 (by simp)
  have ef : (L.filter (fun p => !(fun _ => false) p)).map (bump (L.filter fun _ => false)) = L := by
    have e1 : (L.filter fun p => !(fun _ => false) p) = L := List.filter_eq_self.2 (by simp)
    rw [ez, e1]
    exact (List.map_congr_left (g := id) (fun p _ => bump_nil p)).trans (List.map_id _)
  rcases hor with ⟨_, hb, rfl⟩ | ⟨_, _, hb, rfl⟩ | ⟨hM0, h1, ho, v, rfl, h2, h3⟩
  · refine ⟨only_of_below hb _, _, _, fun _ => false, has, lg, rfl, ?_, ?_, hg⟩
    · rw [ez]; exact ⟨none, 0, 0, rfl, rfl, Ps.nil _, fun x hx => nomatch hx⟩
    · rw [ef]; exact h.only hb
  · refine ⟨only_of_below hb _, _, _, fun _ => false, has, lg, rfl, ?_, ?_, hg⟩
    · rw [ez]; exact ⟨none, 0, 0, rfl, rfl, Ps.nil _, fun x hx => nomatch hx⟩
    · rw [ef]; exact h.only hb
  · refine ⟨ho, v, 0, _, _, _, rfl, h2, h3, ?_⟩
    unfold newTop
    split
    · obtain ⟨r, hr, h4, h5⟩ := nf_top hM hM0
      have := hR.bnd r hr
      unfold u64b'
      omega
    · exact hg
end Go.Proofs.Ytidfimpchbkppaa
