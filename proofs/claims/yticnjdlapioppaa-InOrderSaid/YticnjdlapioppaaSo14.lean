/- In: what join keeps from round to round. -/
import Derived.Test.YticnjdlapioppaaSo13
namespace Go.Proofs.Yticnjdlapioppaa
open Go.RowKit
set_option linter.unusedVariables false

theorem sortst_all (base n cap : Nat) (a : Option Addr) (L : List Pc) (w : World) (hn : n = L.length) (hown : OwnS w base 130 2 a n cap (cellsQ L)) (hok : ∀ p ∈ L, PcOk p) (hbase : base ≤ w.heap.size) (hbig : L.length ≤ 1000000) :
    Calls Try.prog 63 #[.slice a n cap, .func (.func 64) #[] #[]] w fun e w' => e = .returned (.tuple #[]) ∧ Below base w w' ∧ ∃ M, Qs w' a cap M ∧ M.Perm L ∧ Ord keyQ 0 n M := by
  rcases List.eq_nil_or_concat L with rfl | ⟨L', p, rfl⟩
  · subst hn
    refine (sortst_nil a cap _ w).mono ?_
    rintro e w1 ⟨rfl, rfl⟩
    exact ⟨rfl, Below.refl _ _, [], (hown.qs hok).2, List.Perm.refl _, fun i j h1 h2 h3 => by simp at h3⟩
  · obtain ⟨g, rfl, _⟩ := hown.at_ (i := 0) (by rw [cellsQ_length]; simp)
    exact sortst_any base g n cap _ w hn hown hok hbase (by simp) hbig

def PO (w : World) (B : Nat) (T : List Int) (E : Nat) (p : Pc) : Prop := ∃ o : Nat, p.off = (o : Int) ∧ E ≤ o ∧ o + p.n ≤ T.length ∧ 0 < p.n ∧ OwnS w B 5 1 p.a p.n p.c (bytesV (sub T o p.n))
theorem PO.keep {w w' : World} {B : Nat} {T : List Int} {E : Nat} {p : Pc} (h : PO w B T E p) (hk : ∀ x, p.a = some x → x.block < w.heap.size → w'.heap[x.block]? = w.heap[x.block]?) : PO w' B T E p := by
  obtain ⟨o, h1, h2, h3, h4, h5⟩ := h
  exact ⟨o, h1, h2, h3, h4, h5.keep fun x hx => hk x hx (h5.block hx).2.1⟩
theorem PO.lt {w : World} {B : Nat} {T : List Int} {E : Nat} {p : Pc} (h : PO w B T E p) {x : Addr} (hx : p.a = some x) : B ≤ x.block ∧ x.block < w.heap.size := by
  obtain ⟨o, h1, h2, h3, h4, h5⟩ := h
  exact ⟨(h5.block hx).1, (h5.block hx).2.1⟩
theorem sub_wf {T : List Int} (hT : ∀ x ∈ T, (Lit.int .u8 x).wf = true) (o n : Nat) : ∀ x ∈ sub T o n, (Lit.int .u8 x).wf = true := fun x hx => hT x (List.mem_of_mem_drop (List.mem_of_mem_take hx))
theorem PO.gp {w : World} {B : Nat} {T : List Int} {E : Nat} {p : Pc} (h : PO w B T E p) (hT : ∀ x ∈ T, (Lit.int .u8 x).wf = true) : GP w T E p := by
  obtain ⟨o, h1, h2, h3, h4, h5⟩ := h
  exact ⟨o, h1, h2, h3, h4, (h5.sl (sub_wf hT _ _)).2⟩

def Apart (L : List Pc) : Prop := L.Pairwise fun p r => p.off + (p.n : Int) < r.off
structure JI (T : List Int) (E B : Nat) (M : List Pc) (k : Nat) (O : List Pc) (a : Option Addr) (c : Nat) (w : World) : Prop where
  own : OwnS w B 130 2 a O.length c (cellsQ O)
  pcs : ∀ p ∈ O, PO w B T E p
  sep : O.Pairwise fun p r => ∀ x y, p.a = some x → r.a = some y → x.block ≠ y.block
  off : ∀ p ∈ O, ∀ x y, p.a = some x → a = some y → x.block ≠ y.block
  apart : Apart O
  le : ∀ p ∈ O, ∀ j, k ≤ j → j < M.length → p.off ≤ (M.getD j default).off
  cov : ∀ i, i < k → ∀ x : Nat, (M.getD i default).off ≤ (x : Int) → (x : Int) < (M.getD i default).off + ((M.getD i default).n : Int) → CovL O x
  cnt : O.length ≤ k
section
variable {T : List Int} {E B : Nat} {M : List Pc} {k : Nat} {O : List Pc} {a a' : Option Addr} {c c' : Nat} {w w' : World} {p q r : Pc}
theorem JI.start : JI T E B M 0 [] none 0 w := ⟨OwnS.nil _ _ _ _, by simp, List.Pairwise.nil, by simp, List.Pairwise.nil, by simp, fun i hi => by omega, by simp⟩
theorem JI.below (h : JI T E B M k O a c w) (hb : Below w.heap.size w w') : JI T E B M k O a c w' :=
  ⟨h.own.below hb, fun p hp => (h.pcs p hp).keep fun x _ hlt => hb.block _ hlt, h.sep, h.off, h.apart, h.le, h.cov, h.cnt⟩
theorem JI.skip (h : JI T E B M k (O ++ [q]) a c w) (hk : k < M.length) (hend : (M.getD k default).off + ((M.getD k default).n : Int) ≤ q.off + (q.n : Int)) : JI T E B M (k + 1) (O ++ [q]) a c w := by
  have hq := h.le q (by simp) k (Nat.le_refl _) hk
  refine ⟨h.own, h.pcs, h.sep, h.off, h.apart, fun p hp j hj hj2 => h.le p hp j (by omega) hj2, fun i hi x x1 x2 => ?_, by have := h.cnt; omega⟩
  by_cases hik : i < k
  · exact h.cov i hik x x1 x2
  · obtain rfl : i = k := by omega
    exact ⟨q, by simp, by omega, by omega⟩
theorem JI.new (h : JI T E B M k O a c w) (hk : k < M.length) (hpk : M.getD k default = p) (hord : ∀ i j, i ≤ j → j < M.length → (M.getD i default).off ≤ (M.getD j default).off)
    (hgt : ∀ A q, O = A ++ [q] → q.off + (q.n : Int) < p.off) (hro : r.off = p.off) (hrn : r.n = p.n) (hr : PO w' B T E r) (hra : ∀ x, r.a = some x → w.heap.size ≤ x.block)
    (hkeep : ∀ b, b < w.heap.size → (∀ y, a = some y → b ≠ y.block) → w'.heap[b]? = w.heap[b]?)
    (hown : OwnS w' B 130 2 a' (O ++ [r]).length c' (cellsQ (O ++ [r]))) (ha : ∀ y, a' = some y → (∃ z, a = some z ∧ y.block = z.block) ∨ (w.heap.size ≤ y.block ∧ ∀ x, r.a = some x → x.block ≠ y.block)) :
    JI T E B M (k + 1) (O ++ [r]) a' c' w' := by
  subst hpk
  have hgt' : ∀ q ∈ O, q.off + (q.n : Int) < r.off := by
    rcases List.eq_nil_or_concat O with rfl | ⟨A, q, hAq⟩
    · simp
    · rw [List.concat_eq_append] at hAq
      have h1 := hgt A q hAq
      subst hAq
      intro z hz
      rcases List.mem_append.1 hz with hz | hz
      · have h2 := (List.pairwise_append.1 h.apart).2.2 z hz q (by simp)
        have : 0 ≤ (q.n : Int) := by omega
        omega
      · rw [List.mem_singleton.1 hz]; omega
  refine ⟨hown, fun q hq => ?_, ?_, fun q hq x y hx hy => ?_, ?_, fun q hq j hj hj2 => ?_, fun i hi x x1 x2 => ?_, by have := h.cnt; simp; omega⟩
  · rcases List.mem_append.1 hq with hq | hq
    · exact (h.pcs q hq).keep fun x hx hlt => hkeep _ hlt fun y hy => h.off q hq x y hx hy
    · rw [List.mem_singleton.1 hq]; exact hr
  · refine List.pairwise_append.2 ⟨h.sep, List.pairwise_singleton _ _, fun q hq z hz x y hx hy => ?_⟩
    rw [List.mem_singleton.1 hz] at hy
    have h1 := ((h.pcs q hq).lt hx).2
    have h2 := hra y hy
    omega
  · rcases List.mem_append.1 hq with hq | hq
    · rcases ha y hy with ⟨z, hz, he⟩ | ⟨h1, h2⟩
      · rw [he]; exact h.off q hq x z hx hz
      · have h3 := ((h.pcs q hq).lt hx).2
        omega
    · rw [List.mem_singleton.1 hq] at hx
      rcases ha y hy with ⟨z, hz, he⟩ | ⟨h1, h2⟩
      · have h3 := (h.own.block hz).2.1
        have h4 := hra x hx
        omega
      · exact h2 x hx
  · refine List.pairwise_append.2 ⟨h.apart, List.pairwise_singleton _ _, fun q hq z hz => ?_⟩
    rw [List.mem_singleton.1 hz]
    exact hgt' q hq
  · rcases List.mem_append.1 hq with hq | hq
    · exact h.le q hq j (by omega) hj2
    · rw [List.mem_singleton.1 hq, hro]
      exact hord k j (by omega) hj2
  · by_cases hik : i < k
    · exact (h.cov i hik x x1 x2).mono fun z hz => List.mem_append_left _ hz
    · obtain rfl : i = k := by omega
      exact ⟨r, by simp, by omega, by rw [hro, hrn]; omega⟩
theorem JI.ext (h : JI T E B M k (O ++ [q]) a c w) (hk : k < M.length) (hpk : M.getD k default = p) (hle : p.off ≤ q.off + (q.n : Int)) (hro : r.off = q.off) (hrn : q.off + (r.n : Int) = p.off + (p.n : Int)) (hrm : q.n ≤ r.n) (hr : PO w' B T E r)
    (hra : ∀ x, r.a = some x → (∃ y, q.a = some y ∧ x.block = y.block) ∨ w.heap.size ≤ x.block)
    (hkeep : ∀ b, b < w.heap.size → (∀ y, a = some y → b ≠ y.block) → (∀ y, q.a = some y → b ≠ y.block) → w'.heap[b]? = w.heap[b]?)
    (hown : OwnS w' B 130 2 a (O ++ [r]).length c (cellsQ (O ++ [r]))) :
    JI T E B M (k + 1) (O ++ [r]) a c w' := by
  subst hpk
  have hq := h.le q (by simp) k (Nat.le_refl _) hk
  have hsep := List.pairwise_append.1 h.sep
  have hap := List.pairwise_append.1 h.apart
  refine ⟨hown, fun z hz => ?_, ?_, fun z hz x y hx hy => ?_, ?_, fun z hz j hj hj2 => ?_, fun i hi x x1 x2 => ?_, by have := h.cnt; simp at this ⊢; omega⟩
  · rcases List.mem_append.1 hz with hz | hz
    · exact (h.pcs z (List.mem_append_left _ hz)).keep fun x hx hlt => hkeep _ hlt (fun y hy => h.off z (List.mem_append_left _ hz) x y hx hy) (fun y hy => hsep.2.2 z hz q (by simp) x y hx hy)
    · rw [List.mem_singleton.1 hz]; exact hr
  · refine List.pairwise_append.2 ⟨hsep.1, List.pairwise_singleton _ _, fun z hz z2 hz2 x y hx hy => ?_⟩
    rw [List.mem_singleton.1 hz2] at hy
    rcases hra y hy with ⟨y2, hy2, he⟩ | h1
    · rw [he]; exact hsep.2.2 z hz q (by simp) x y2 hx hy2
    · have h3 := ((h.pcs z (List.mem_append_left _ hz)).lt hx).2
      omega
  · rcases List.mem_append.1 hz with hz | hz
    · exact h.off z (List.mem_append_left _ hz) x y hx hy
    · rw [List.mem_singleton.1 hz] at hx
      rcases hra x hx with ⟨y2, hy2, he⟩ | h1
      · rw [he]; exact h.off q (by simp) y2 y hy2 hy
      · have h3 := (h.own.block hy).2.1
        omega
  · refine List.pairwise_append.2 ⟨hap.1, List.pairwise_singleton _ _, fun z hz z2 hz2 => ?_⟩
    rw [List.mem_singleton.1 hz2, hro]
    exact hap.2.2 z hz q (by simp)
  · rcases List.mem_append.1 hz with hz | hz
    · exact h.le z (List.mem_append_left _ hz) j (by omega) hj2
    · rw [List.mem_singleton.1 hz, hro]
      exact h.le q (by simp) j (by omega) hj2
  · by_cases hik : i < k
    · obtain ⟨z, hz, z1, z2⟩ := h.cov i hik x x1 x2
      rcases List.mem_append.1 hz with hz | hz
      · exact ⟨z, List.mem_append_left _ hz, z1, z2⟩
      · rw [List.mem_singleton.1 hz] at z1 z2
        exact ⟨r, by simp, by omega, by omega⟩
    · obtain rfl : i = k := by omega
      exact ⟨r, by simp, by omega, by omega⟩
/-- Pieces apart are at most as many as the text has bytes. -/
theorem apart_len : ∀ {L : List Pc} {E : Nat}, Apart L → (∀ p ∈ L, ∃ o : Nat, p.off = (o : Int) ∧ E ≤ o ∧ o + p.n ≤ T.length ∧ 0 < p.n) → L.length ≤ T.length - E
  | [], E, _, _ => by simp
  | p :: L, E, hA, hp => by
    obtain ⟨o, h1, h2, h3, h4⟩ := hp p (by simp)
    have hA' := List.pairwise_cons.1 hA
    have := apart_len (L := L) (E := E + 1) hA'.2 (fun r hr => by
      obtain ⟨o', k1, k2, k3, k4⟩ := hp r (by simp [hr])
      exact ⟨o', k1, by have := hA'.1 r hr; omega, k3, k4⟩)
    simp
    omega
end
theorem cellsQ_set (A : List Pc) (q : Pc) (a : Option Addr) (n c : Nat) : (cellsQ (A ++ [q])).set (A.length * 2 + 1) (.slice a n c) = cellsQ (A ++ [⟨q.off, a, n, c⟩]) := by
  rw [cellsQ_append, cellsQ_append, List.set_append_right _ _ (by rw [cellsQ_length]; omega), cellsQ_length]
  have e1 : A.length * 2 + 1 - A.length * 2 = 1 := by omega
  rw [e1]
  rfl
theorem OwnS.setS {w : World} {base : Nat} {e : TypeId} {size n cap : Nat} {a : Option Addr} {xs : List Value} (h : OwnS w base e size a n cap xs) (g : Nat) (ha : a = some ⟨g, 0, none⟩) (i : Nat) (v : Value) : OwnS (w.setCell ⟨g, i, none⟩ v) base e size a n cap (xs.set i v) := by
  obtain ⟨hl, h2⟩ := h
  refine ⟨by simpa using hl, ?_⟩
  rcases h2 with ⟨h1, h3⟩ | ⟨g', c, cur, h1, h3, h4, h5, h6, h7, h8⟩
  · rw [ha] at h1; cases h1
  · rw [ha] at h1
    cases h1
    have hb : Blk w g cur e := h4
    refine .inr ⟨g, cap, _, by rw [ha], h3, hb.set i v, h5, h6, by simpa using h7, ?_⟩
    rw [← h8]
    simp [List.take_set]
theorem OwnS.lastQ {w : World} {base : Nat} {e : TypeId} {n cap : Nat} {a : Option Addr} {A : List Pc} {q : Pc} (h : OwnS w base e 2 a n cap (cellsQ (A ++ [q]))) : ∃ g, a = some ⟨g, 0, none⟩ ∧ base ≤ g ∧ g < w.heap.size ∧
    w.cell? ⟨g, A.length * 2, none⟩ = some (.int .u64 q.off) ∧ w.cell? ⟨g, A.length * 2 + 1, none⟩ = some (.slice q.a q.n q.c) ∧ w.frozen? ⟨g, A.length * 2 + 1, none⟩ = false := by
  have e0 : (cellsQ (A ++ [q]))[A.length * 2]? = some (.int .u64 q.off) := by
    rw [cellsQ_append, List.getElem?_append_right (by rw [cellsQ_length]; omega), cellsQ_length, Nat.sub_self]; rfl
  have e1 : (cellsQ (A ++ [q]))[A.length * 2 + 1]? = some (.slice q.a q.n q.c) := by
    rw [cellsQ_append, List.getElem?_append_right (by rw [cellsQ_length]; omega), cellsQ_length, show A.length * 2 + 1 - A.length * 2 = 1 from by omega]; rfl
  obtain ⟨g, ha, h1, h2, h3, _⟩ := h.at_ (i := A.length * 2) (by rw [cellsQ_length]; simp)
  obtain ⟨g', ha', _, _, h3', hf⟩ := h.at_ (i := A.length * 2 + 1) (by rw [cellsQ_length]; simp; omega)
  rw [ha] at ha'
  cases ha'
  exact ⟨g, ha, h1, h2, by rw [h3, e0], by rw [h3', e1], hf⟩
end Go.Proofs.Yticnjdlapioppaa
