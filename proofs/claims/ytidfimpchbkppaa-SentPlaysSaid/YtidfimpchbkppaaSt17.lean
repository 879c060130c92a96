/- SentPlays: the plain law; the code's and the document's Ack told alike. -/
import Derived.Test.YtidfimpchbkppaaSt16
import Derived.Test.YtidfimpchbkppaaSt11
namespace Go.Proofs.Ytidfimpchbkppaa
open Go.RowKit
set_option linter.unusedVariables false

/-! ### Lists of packets that differ in where their frames lie -/
def normP (p : Pk) : Pk := { p with fa := none, fc := 0 }
def Sim (A B : List Pk) : Prop := A.map normP = B.map normP
theorem Sim.refl (A : List Pk) : Sim A A := rfl
theorem Sim.len {A B : List Pk} (h : Sim A B) : A.length = B.length := by
  have := congrArg List.length h
  simpa using this
theorem alike_of {p q : Pk} (h : normP p = normP q) : AlikeP p q := by
  cases p
  cases q
  simp only [normP, Pk.mk.injEq] at h
  obtain ⟨rfl, rfl, rfl, rfl, rfl, _, rfl, _⟩ := h
  rfl
theorem Sim.alike {A B : List Pk} (h : Sim A B) : AlikeL A B := by
  refine ⟨h.len, fun i hi => alike_of ?_⟩
  have hi' : i < B.length := h.len ▸ hi
  have e := congrArg (fun l : List Pk => l[i]?) h
  simp only [List.getElem?_map, List.getElem?_eq_getElem hi, List.getElem?_eq_getElem hi', Option.map_some, Option.some.injEq] at e
  simpa [hi, hi'] using e
theorem map_filter_norm (q : Pk → Bool) (hq : ∀ p, q (normP p) = q p) (A : List Pk) : (A.filter q).map normP = (A.map normP).filter q := by
  rw [List.filter_map]
  congr 1
  exact List.filter_congr fun p _ => (hq p).symm
theorem Sim.filter {A B : List Pk} (h : Sim A B) (q : Pk → Bool) (hq : ∀ p, q (normP p) = q p) : Sim (A.filter q) (B.filter q) := by
  unfold Sim
  rw [map_filter_norm q hq, map_filter_norm q hq, show A.map normP = B.map normP from h]
theorem over_norm (p : Pk) (O : List Pk) : over (normP p) (O.map normP) = over p O := by
  unfold over
  rw [List.countP_map]
  rfl
theorem bump_norm (O : List Pk) (p : Pk) : normP (bump O p) = bump (O.map normP) (normP p) := by
  unfold bump
  rw [over_norm]
  rfl
theorem Sim.bump {A B O U : List Pk} (h : Sim A B) (ho : Sim O U) : Sim (A.map (bump O)) (B.map (bump U)) := by
  unfold Sim at *
  rw [List.map_map, List.map_map]
  have e1 : ∀ (O A : List Pk), A.map (normP ∘ Go.Proofs.Ytidfimpchbkppaa.bump O) = (A.map normP).map (Go.Proofs.Ytidfimpchbkppaa.bump (O.map normP)) := fun O A => by
    rw [List.map_map]
    exact List.map_congr_left fun p _ => bump_norm O p
  rw [e1, e1, h, ho]
theorem Sim.append {A B : List Pk} (h : Sim A B) {p q : Pk} (hp : normP p = normP q) : Sim (A ++ [p]) (B ++ [q]) := by
  unfold Sim at *
  rw [List.map_append, List.map_append, h]
  simp [hp]
theorem pns_norm (A : List Pk) : pns (A.map normP) = pns A := by
  unfold pns
  rw [List.map_map]
  rfl
theorem Sim.pns {A B : List Pk} (h : Sim A B) : pns A = pns B := by rw [← pns_norm A, ← pns_norm B, show A.map normP = B.map normP from h]
theorem Sim.all {A B : List Pk} (h : Sim A B) {P : Pk → Prop} (hP : ∀ p, P (normP p) ↔ P p) (hA : ∀ p ∈ A, P p) : ∀ p ∈ B, P p := by
  intro p hp
  rw [← hP]
  have : normP p ∈ B.map normP := List.mem_map.2 ⟨p, hp, rfl⟩
  rw [← show A.map normP = B.map normP from h] at this
  obtain ⟨r, hr, e⟩ := List.mem_map.1 this
  rw [← e]
  exact (hP r).2 (hA r hr)
theorem sizes_norm (A : List Pk) : sizes (A.map normP) = sizes A := by
  unfold sizes
  rw [List.foldl_map]
  rfl
theorem Sim.sizes {A B : List Pk} (h : Sim A B) : sizes A = sizes B := by rw [← sizes_norm A, ← sizes_norm B, show A.map normP = B.map normP from h]
theorem any_norm (A : List Pk) : (A.map normP).any (·.el) = A.any (·.el) := by
  rw [List.any_map]
  rfl
theorem Sim.any {A B : List Pk} (h : Sim A B) : A.any (·.el) = B.any (·.el) := by rw [← any_norm A, ← any_norm B, show A.map normP = B.map normP from h]
theorem loss_norm (has : Bool) (lg delay : Int) (A : List Pk) : lossOf has lg delay (A.map normP) = lossOf has lg delay A := by
  unfold lossOf
  rw [List.foldl_map]
  rfl
theorem Sim.loss {A B : List Pk} (h : Sim A B) (has : Bool) (lg delay : Int) : lossOf has lg delay A = lossOf has lg delay B := by rw [← loss_norm has lg delay A, ← loss_norm has lg delay B, show A.map normP = B.map normP from h]

/-! ### What stays true of the numbers -/
structure PI (L R : List Pk) (lg top : Int) (k : Nat) : Prop where
  sim : Sim L R
  asc : (pns L).Pairwise (· < ·)
  low : ∀ p ∈ L, p.pn < top
  at_ : ∀ p ∈ L, p.at_ ≤ 4611686018427387904
  sz : ∀ p ∈ L, p.size ≤ 1099511627776
  aft : ∀ p ∈ L, p.after + L.length ≤ k
  len : L.length ≤ k
  ulg : 0 ≤ lg ∧ lg ≤ 4611686018427387904
  utop : 0 ≤ top ∧ top ≤ 4611686018427387904
theorem PI.start : PI [] [] 0 0 0 := ⟨rfl, by simp [pns], by simp, by simp, by simp, by simp, by simp, by omega, by omega⟩
theorem PI.next {L R : List Pk} {lg top : Int} {k : Nat} (h : PI L R lg top k) : PI L R lg top (k + 1) :=
  ⟨h.sim, h.asc, h.low, h.at_, h.sz, fun p hp => by have := h.aft p hp; omega, by have := h.len; omega, h.ulg, h.utop⟩
theorem PI.rest {L R : List Pk} {lg top : Int} {k : Nat} (h : PI L R lg top k) : (pns R).Pairwise (· < ·) ∧ (∀ p ∈ R, p.at_ ≤ 4611686018427387904) ∧ (∀ p ∈ R, p.size ≤ 1099511627776) ∧ (∀ p ∈ R, p.after ≤ k) ∧ (∀ p ∈ L, p.after ≤ k) ∧ R.length = L.length := by
  have h1 : ∀ p ∈ L, p.after ≤ k := fun p hp => by have := h.aft p hp; omega
  exact ⟨h.sim.pns ▸ h.asc, h.sim.all (fun p => Iff.rfl) h.at_, h.sim.all (fun p => Iff.rfl) h.sz, h.sim.all (fun p => Iff.rfl) h1, h1, h.sim.len.symm⟩
theorem PI.add {L R : List Pk} {lg top : Int} {k : Nat} (h : PI L R lg top k) (p q : Pk) (hpq : normP p = normP q) (h1 : ¬ p.pn < top) (h2 : ¬ 4611686018427387903 < p.pn) (h3 : p.at_ ≤ 4611686018427387904) (h4 : p.size ≤ 1099511627776) (h0 : p.after = 0) :
    PI (L ++ [p]) (R ++ [q]) lg (p.pn + 1) (k + 1) := by
  have ht := h.utop
  refine ⟨h.sim.append hpq, ?_, ?_, ?_, ?_, ?_, by have := h.len; simp; omega, h.ulg, by omega⟩
  · unfold pns
    rw [List.map_append]
    refine List.pairwise_append.2 ⟨h.asc, by simp, fun x hx y hy => ?_⟩
    obtain ⟨q, hq, rfl⟩ := List.mem_map.1 hx
    have := h.low q hq
    simp at hy
    omega
  · intro q hq
    rcases List.mem_append.1 hq with hq | hq
    · have := h.low q hq; omega
    · rw [List.mem_singleton.1 hq]; omega
  · intro q hq
    rcases List.mem_append.1 hq with hq | hq
    · exact h.at_ q hq
    · rw [List.mem_singleton.1 hq]; exact h3
  · intro q hq
    rcases List.mem_append.1 hq with hq | hq
    · exact h.sz q hq
    · rw [List.mem_singleton.1 hq]; exact h4
  · intro q hq
    rw [List.length_append]
    rcases List.mem_append.1 hq with hq | hq
    · have := h.aft q hq; simp; omega
    · rw [List.mem_singleton.1 hq]; have := h.len; simp; omega
theorem filter_lens (q : Pk → Bool) (L : List Pk) : (L.filter q).length + (L.filter fun p => !q p).length = L.length := by
  have := (List.filter_append_perm q L).length_eq
  simpa using this
theorem PI.take {L R : List Pk} {lg top : Int} {k : Nat} (h : PI L R lg top k) (q : Pk → Bool) (f g : Pk → Pk) (hs : Sim ((L.filter fun p => !q p).map f) ((R.filter fun p => !q p).map g))
    (hf : ∀ p, (f p).pn = p.pn ∧ (f p).at_ = p.at_ ∧ (f p).size = p.size ∧ (f p).after ≤ p.after + (L.filter q).length) {lg' : Int} (hl : 0 ≤ lg' ∧ lg' ≤ 4611686018427387904) :
    PI ((L.filter fun p => !q p).map f) ((R.filter fun p => !q p).map g) lg' top (k + 1) := by
  have ep : pns ((L.filter fun p => !q p).map f) = pns (L.filter fun p => !q p) := by
    unfold pns
    rw [List.map_map]
    exact List.map_congr_left fun p _ => (hf p).1
  have hlen := filter_lens q L
  have hk := h.len
  refine ⟨hs, ?_, ?_, ?_, ?_, ?_, by simp; omega, hl, h.utop⟩
  · rw [ep]
    exact h.asc.sublist (List.filter_sublist.map _)
  · intro p hp
    obtain ⟨r, hr, rfl⟩ := List.mem_map.1 hp
    rw [(hf r).1]
    exact h.low r (List.mem_filter.1 hr).1
  · intro p hp
    obtain ⟨r, hr, rfl⟩ := List.mem_map.1 hp
    rw [(hf r).2.1]
    exact h.at_ r (List.mem_filter.1 hr).1
  · intro p hp
    obtain ⟨r, hr, rfl⟩ := List.mem_map.1 hp
    rw [(hf r).2.2.1]
    exact h.sz r (List.mem_filter.1 hr).1
  · intro p hp
    obtain ⟨r, hr, rfl⟩ := List.mem_map.1 hp
    have h1 := (hf r).2.2.2
    have h2 := h.aft r (List.mem_filter.1 hr).1
    rw [List.length_map]
    omega

/-! ### Ack -/
def ackGo (l : List Rg) (top : Int) : Bool := refAny l && !decide (top < refTop l)
def ackOk (l : List Rg) (top : Int) : Bool := !refAny l || !decide (top < refTop l)
def ackQ (l : List Rg) (top : Int) (p : Pk) : Bool := ackGo l top && inB l p.pn
def ackHas (has : Bool) (l : List Rg) (top : Int) : Bool := has || ackGo l top
def ackLg (has : Bool) (lg : Int) (l : List Rg) (top : Int) : Int := if (ackGo l top && newHas15 has lg (refTop l)) = true then refTop l - 1 else lg
def ackErr (l : List Rg) (top : Int) : Int := if ackOk l top = true then 0 else 5
theorem ackLg_bnd {has : Bool} {lg : Int} {l : List Rg} {top : Int} (hr : ∀ r ∈ l, 0 ≤ r.1) (hg : 0 ≤ lg ∧ lg ≤ 4611686018427387904) (ht : 0 ≤ top ∧ top ≤ 4611686018427387904) : 0 ≤ ackLg has lg l top ∧ ackLg has lg l top ≤ 4611686018427387904 := by
  unfold ackLg
  split
  · rename_i h
    unfold ackGo at h
    simp only [Bool.and_eq_true, Bool.not_eq_true', decide_eq_false_iff_not] at h
    have := top_pos hr h.1.1
    omega
  · exact hg
theorem refAny_iff {l : List Rg} : refAny l = true ↔ ∃ n, MemR l n := by
  unfold refAny
  rw [List.any_eq_true]
  constructor
  · rintro ⟨r, hr, h⟩
    have := of_decide_eq_true h
    exact ⟨r.1, r, hr, by omega, this⟩
  · rintro ⟨n, r, hr, h1, h2⟩
    exact ⟨r, hr, decide_eq_true (by omega)⟩
theorem top_is : ∀ (l : List Rg) (t : Int), l.foldl topStep t = t ∨ ∃ r ∈ l, r.1 < r.2 ∧ l.foldl topStep t = r.2
  | [], t => .inl rfl
  | r :: l, t => by
    simp only [List.foldl_cons]
    rcases top_is l (topStep t r) with h | ⟨q, hq, h1, h2⟩
    · rw [h]
      unfold topStep
      split
      · rename_i h3
        simp only [Bool.and_eq_true, decide_eq_true_eq] at h3
        exact .inr ⟨r, by simp, h3.1, rfl⟩
      · exact .inl rfl
    · exact .inr ⟨q, List.mem_cons_of_mem _ hq, h1, h2⟩
theorem nf_refTop {l : List Rg} (h0 : ∀ r ∈ l, 0 ≤ r.1) {M : List Rg} (h : IsNf (MemR l) M) (hM : M ≠ []) : refAny l = true ∧ endOf (-1) M = refTop l := by
  have h1 := nf_top h hM
  have hany : refAny l = true := refAny_iff.2 ⟨_, h1⟩
  refine ⟨hany, ?_⟩
  obtain ⟨r, hr, h2, h3⟩ := h1
  have h4 := (top_ge l 0).2 r hr (by omega)
  have h5 := top_pos h0 hany
  unfold refTop at *
  rcases top_is l 0 with h6 | ⟨q, hq, h7, h8⟩
  · omega
  · have h9 : MemR M (q.2 - 1) := (h.mem _).2 ⟨q, hq, by omega, by omega⟩
    have := neatFrom_high h.neat h9
    omega
theorem nf_refNil {l : List Rg} {M : List Rg} (h : IsNf (MemR l) M) (hM : M = []) : refAny l = false := by
  cases hA : refAny l with
  | false => rfl
  | true =>
    obtain ⟨n, hn⟩ := refAny_iff.1 hA
    have := (h.mem n).2 hn
    rw [hM] at this
    exact absurd this (memR_nil n)
theorem ack_none {L : List Pk} {l : List Rg} {top : Int} (h : ackGo l top = false) : L.filter (ackQ l top) = [] ∧ (L.filter fun p => !ackQ l top p) = L ∧ ((L.filter fun p => !ackQ l top p).map (bump (L.filter (ackQ l top)))) = L := by
  have e1 : L.filter (ackQ l top) = [] := List.filter_eq_nil_iff.2 (by simp [ackQ, h])
  have e2 : (L.filter fun p => !ackQ l top p) = L := List.filter_eq_self.2 (by simp [ackQ, h])
  refine ⟨e1, e2, ?_⟩
  rw [e1, e2]
  exact (List.map_congr_left (g := id) (fun p _ => bump_nil p)).trans (List.map_id _)
theorem ack_some {L : List Pk} {l : List Rg} {top : Int} (h : ackGo l top = true) : L.filter (ackQ l top) = (L.filter fun p => inB l p.pn) ∧ (L.filter fun p => !ackQ l top p) = (L.filter fun p => !inB l p.pn) := by
  have e : ackQ l top = fun p => inB l p.pn := funext fun p => by simp [ackQ, h]
  rw [e]
  exact ⟨rfl, rfl⟩
theorem ackQ_norm (l : List Rg) (top : Int) (p : Pk) : ackQ l top (normP p) = ackQ l top p := rfl
/-- The document's Ack. -/
theorem rack_play (ar : Option Addr) (nr cr : Nat) (l : List Rg) (L : List Pk) (a : Option Addr) (n c : Nat) (has : Bool) (lg la lt top : Int) (w : World) (hn : n = L.length) (hP : Ps w a c L) (hl : L.length ≤ 1000) (hnr : nr = l.length) (hR : Rs w ar cr l) (hll : l.length ≤ 1000)
    (hg : 0 ≤ lg ∧ lg ≤ 4611686018427387904) (ht : 0 ≤ top ∧ top ≤ 4611686018427387904) (hasc : (pns L).Pairwise (· < ·)) (haf : ∀ p ∈ L, p.after ≤ 1000000) :
    Calls Try.prog 49 #[stV a n c has lg la lt top, .slice ar nr cr] w fun e w' => Below w.heap.size w w' ∧ ∃ (ao : Option Addr) (no co : Nat) (al : Option Addr) (nl cl : Nat),
      e = .returned (.tuple #[stV al nl cl (ackHas has l top) (ackLg has lg l top) la lt top, .slice ao no co, .bool (ackOk l top)]) ∧ no = (L.filter (ackQ l top)).length ∧ nl = ((L.filter fun p => !ackQ l top p).map (bump (L.filter (ackQ l top)))).length ∧
      Ps w' ao co (L.filter (ackQ l top)) ∧ Ps w' al cl ((L.filter fun p => !ackQ l top p).map (bump (L.filter (ackQ l top)))) ∧ (∀ x, al = some x → w.heap.size ≤ x.block ∨ al = a) ∧ (∀ x, ao = some x → w.heap.size ≤ x.block) := by
  refine (rack_any ar nr cr l L a n c has lg la lt top w hn hP hl hnr hR hll hg ht hasc haf).mono ?_
  rintro e w' ⟨hb, ⟨h1, rfl⟩ | ⟨h1, h2, rfl⟩ | ⟨h1, h2, ao, no, co, al, nl, cl, rfl, h3, h4, h5, h6, h7, h8⟩⟩
  · have hgo : ackGo l top = false := by simp [ackGo, h1]
    obtain ⟨e1, e2, e3⟩ := ack_none (L := L) hgo
    refine ⟨hb, none, 0, 0, a, n, c, ?_, by rw [e1]; rfl, by rw [e3]; exact hn, by rw [e1]; exact Ps.nil _, by rw [e3]; exact hP.below hb, fun x _ => .inr rfl, fun x hx => nomatch hx⟩
    simp [ackHas, ackLg, ackOk, hgo, h1]
  · have hgo : ackGo l top = false := by simp [ackGo, h2]
    obtain ⟨e1, e2, e3⟩ := ack_none (L := L) hgo
    refine ⟨hb, none, 0, 0, a, n, c, ?_, by rw [e1]; rfl, by rw [e3]; exact hn, by rw [e1]; exact Ps.nil _, by rw [e3]; exact hP.below hb, fun x _ => .inr rfl, fun x hx => nomatch hx⟩
    simp [ackHas, ackLg, ackOk, hgo, h1, h2]
  · have hgo : ackGo l top = true := by unfold ackGo; rw [h1, decide_eq_false h2]; rfl
    obtain ⟨e1, e2⟩ := ack_some (L := L) hgo
    refine ⟨hb, ao, no, co, al, nl, cl, ?_, by rw [e1]; exact h3, by rw [e1, e2, List.length_map]; exact h4, by rw [e1]; exact h5, by rw [e1, e2]; exact h6, fun x hx => .inl (h8 x hx), h7⟩
    have hok : ackOk l top = true := by unfold ackOk; rw [h1, decide_eq_false h2]; rfl
    simp [ackHas, ackLg, hok, hgo]
/-- The code's Ack. -/
theorem sack_play (b : Nat) (F : Nat → Prop) (al0 : Option Addr) (nl0 cl0 : Nat) (l : List Rg) (L : List Pk) (has : Bool) (lg la lt top : Int) (w : World) (h : SS w b F L has lg la lt top) (hF : Hid (∀ z, w.heap.size ≤ z → F z)) (hl : L.length ≤ 1000) (hg : u64b' lg) (ht : u64b' top) (hnl : nl0 = l.length) (hR : Rs w al0 cl0 l) (hll : l.length ≤ 1000) (haf : ∀ p ∈ L, p.after ≤ 1000000) :
    Calls Try.prog 40 #[.pointer (some ⟨b, 0, none⟩), .slice al0 nl0 cl0] w fun e w' => Only (· = b) w w' ∧ ∃ v, e = .returned (.tuple #[v, .int .i64 (ackErr l top)]) ∧
      Told15 w w' v (L.filter (ackQ l top)) ∧ SS w' b F ((L.filter fun p => !ackQ l top p).map (bump (L.filter (ackQ l top)))) (ackHas has l top) (ackLg has lg l top) la lt top := by
  have h0 : ∀ r ∈ l, 0 ≤ r.1 := fun r hr => (hR.bnd r hr).1.1
  refine (sack_any b F al0 nl0 cl0 l L has lg la lt top w h hF hl hg ht hnl hR hll haf).mono ?_
  rintro e w' ⟨M, hM, hor⟩
  rcases hor with ⟨hN, hb, rfl⟩ | ⟨hM0, htop, hb, rfl⟩ | ⟨hM0, h1, ho, v, rfl, h2, h3⟩
  · have hA := nf_refNil hM hN
    have hgo : ackGo l top = false := by simp [ackGo, hA]
    obtain ⟨e1, e2, e3⟩ := ack_none (L := L) hgo
    refine ⟨only_of_below hb _, .slice none 0 0, ?_, ?_, ?_⟩
    · simp [ackErr, ackOk, hA]
    · rw [e1]; exact ⟨none, 0, 0, rfl, rfl, Ps.nil _, fun x hx => nomatch hx⟩
    · rw [e3, show ackHas has l top = has by simp [ackHas, hgo], show ackLg has lg l top = lg by simp [ackLg, hgo]]; exact h.only hb
  · obtain ⟨hA, hE⟩ := nf_refTop h0 hM hM0
    rw [hE] at htop
    have hgo : ackGo l top = false := by simp [ackGo, htop]
    obtain ⟨e1, e2, e3⟩ := ack_none (L := L) hgo
    refine ⟨only_of_below hb _, .slice none 0 0, ?_, ?_, ?_⟩
    · simp [ackErr, ackOk, hA, htop]
    · rw [e1]; exact ⟨none, 0, 0, rfl, rfl, Ps.nil _, fun x hx => nomatch hx⟩
    · rw [e3, show ackHas has l top = has by simp [ackHas, hgo], show ackLg has lg l top = lg by simp [ackLg, hgo]]; exact h.only hb
  · obtain ⟨hA, hE⟩ := nf_refTop h0 hM hM0
    rw [hE] at h1 h3
    have hgo : ackGo l top = true := by unfold ackGo; rw [hA, decide_eq_false h1]; rfl
    have hok : ackOk l top = true := by unfold ackOk; rw [hA, decide_eq_false h1]; rfl
    obtain ⟨e1, e2⟩ := ack_some (L := L) hgo
    refine ⟨ho, v, ?_, ?_, ?_⟩
    · simp [ackErr, hok]
    · rw [e1]; exact h2
    · have el : ackLg has lg l top = newTop has lg (refTop l) := by
        unfold ackLg newTop newHas15
        rw [hgo, Bool.true_and]
        have : decide (lg + 1 < refTop l) = decide (lg < refTop l - 1) := decide_eq_decide.2 (by omega)
        rw [this]
      rw [e1, e2, show ackHas has l top = true by simp [ackHas, hgo], el]
      exact h3
/-! ### What the law's loop keeps -/
structure PlayInv (w : World) (b rb : Nat) (ar : Option Addr) (nr cr : Nat) (L R : List Pk) (has : Bool) (lg la lt top : Int) (k : Nat) : Prop where
  ss : SS w b (· ≠ rb) L has lg la lt top
  rs : Blk w rb #[.slice ar nr cr, .bool has, .int .u64 lg, .int .u64 la, .int .u64 lt, .int .u64 top] 64
  rn : nr = R.length
  rp : Ps w ar cr R
  rf : ∀ x, ar = some x → 0 < R.length → x.block ≠ b ∧ x.block ≠ rb
  nb : b ≠ rb
  pi : PI L R lg top k
theorem PlayInv.below {w w' : World} {b rb : Nat} {ar : Option Addr} {nr cr : Nat} {L R : List Pk} {has : Bool} {lg la lt top : Int} {k : Nat} (h : PlayInv w b rb ar nr cr L R has lg la lt top k) (hb : Below w.heap.size w w') : PlayInv w' b rb ar nr cr L R has lg la lt top k :=
  ⟨h.ss.only hb, h.rs.below hb, h.rn, h.rp.below hb, h.rf, h.nb, h.pi⟩
end Go.Proofs.Ytidfimpchbkppaa
