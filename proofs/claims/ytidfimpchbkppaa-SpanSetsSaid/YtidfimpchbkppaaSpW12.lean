/- SpanSets: the law walked. -/
import Derived.Test.YtidfimpchbkppaaSpW11
import Derived.Test.YtidfimpchbkppaaSpP3
namespace Go.Proofs.Ytidfimpchbkppaa
open Go.RowKit
set_option linter.unusedVariables false

/-- Slices of ranges that are at hand. -/
def AllR (w : World) (l : List (Option Addr × Nat × List Rg)) : Prop := ∀ x ∈ l, Rs w x.1 x.2.1 x.2.2
theorem AllR.below {w w' : World} {l : List (Option Addr × Nat × List Rg)} (h : AllR w l) (hb : Below w.heap.size w w') : AllR w' l := fun x hx => (h x hx).below hb
theorem AllR.cons {w : World} {l : List (Option Addr × Nat × List Rg)} {a : Option Addr} {c : Nat} {L : List Rg} (h : Rs w a c L) (hl : AllR w l) : AllR w ((a, c, L) :: l) := fun x hx => by
  rcases List.mem_cons.1 hx with rfl | hx
  · exact h
  · exact hl x hx
theorem AllR.nil (w : World) : AllR w [] := fun x hx => by cases hx
theorem IsNf.inB {f : Int → Bool} {M : List Rg} (h : IsNf (fun n => f n = true) M) (n : Int) : inB M n = f n := by
  have := h.mem n
  rw [← inB_iff] at this
  exact Bool.eq_iff_iff.2 this
/-- A list's numbers, by those of A and B. -/
def Char (M A B : List Rg) (F : Bool → Bool → Bool) : Prop := ∀ n, inB M n = F (inB A n) (inB B n)
theorem Char.a (A B : List Rg) : Char A A B (fun x y => x) := fun n => rfl
theorem Char.b (A B : List Rg) : Char B A B (fun x y => y) := fun n => rfl
theorem inB_append (P Q : List Rg) (n : Int) : Go.Proofs.Ytidfimpchbkppaa.inB (P ++ Q) n = (Go.Proofs.Ytidfimpchbkppaa.inB P n || Go.Proofs.Ytidfimpchbkppaa.inB Q n) := by
  rw [Bool.eq_iff_iff, inB_iff, memR_append, Bool.or_eq_true, inB_iff, inB_iff]
theorem Char.add {P Q M A B : List Rg} {F G K : Bool → Bool → Bool} (h1 : Char P A B F) (h2 : Char Q A B G) (h : IsNf (MemR (P ++ Q)) M) (hk : ∀ x y, K x y = (F x y || G x y)) : Char M A B K := fun n => by
  rw [hk, ← h1 n, ← h2 n, ← inB_append]
  exact inB_congr h.mem n
theorem Char.cut {P Q M A B : List Rg} {F G K : Bool → Bool → Bool} (h1 : Char P A B F) (h2 : Char Q A B G) (h : IsNf (fun n => (Go.Proofs.Ytidfimpchbkppaa.inB P n && !Go.Proofs.Ytidfimpchbkppaa.inB Q n) = true) M) (hk : ∀ x y, K x y = (F x y && !G x y)) : Char M A B K := fun n => by
  rw [hk, ← h1 n, ← h2 n]
  exact h.inB n
theorem Char.both {P Q M A B : List Rg} {F G K : Bool → Bool → Bool} (h1 : Char P A B F) (h2 : Char Q A B G) (h : IsNf (fun n => (Go.Proofs.Ytidfimpchbkppaa.inB P n && Go.Proofs.Ytidfimpchbkppaa.inB Q n) = true) M) (hk : ∀ x y, K x y = (F x y && G x y)) : Char M A B K := fun n => by
  rw [hk, ← h1 n, ← h2 n]
  exact h.inB n
theorem Char.unique {M M' A B : List Rg} {F : Bool → Bool → Bool} (h1 : Char M A B F) (h2 : Char M' A B F) (n1 : NeatFrom (-1) M) (n2 : NeatFrom (-1) M') : M = M' := neat_unique n1 n2 fun n => by
  rw [← inB_iff, ← inB_iff, h1 n, h2 n]
theorem nf_of_nf {M M' : List Rg} {p : Int → Prop} (h : IsNf p M) (h' : IsNf (MemR M) M') : M = M' := IsNf.unique ⟨h.neat, fun n => Iff.rfl⟩ h'

theorem countR_max {M : List Rg} (h : NeatFrom (-1) M) (hb : Bnd M) : countR M ≤ 18446744073709551615 := by
  rcases Nat.eq_zero_or_pos M.length with h0 | h0
  · rw [List.length_eq_zero_iff.1 h0]; simp [countR]
  · have h1 := countR_bd h hb (M.length - 1) (by omega)
    have h2 := countR_take (M := M) (k := M.length - 1) (by omega)
    have h3 := hb.getD (i := M.length - 1) (by omega)
    rw [show M.length - 1 + 1 = M.length by omega, List.take_of_length_le (Nat.le_refl _)] at h2
    omega

set_option maxRecDepth 100000 in
set_option maxHeartbeats 4000000 in
theorem sets_law (a b : Option Addr) (cap cap' : Nat) (A B : List Rg) (w : World) (hA : Rs w a cap A) (hB : Rs w b cap' B) :
    Calls Try.prog 4 #[.slice a A.length cap, .slice b B.length cap'] w fun e w' => e = .returned (.bool true) ∧ Below w.heap.size w w' := by
  have hlA := hA.len
  have hlB := hB.len
  unfold maxLen at hlA hlB
  have BB := Lib.hid hB.bnd
  have HA := Lib.hid hA
  have HB := Lib.hid hB
  clear hA hB
  obtain ⟨nA, hnA⟩ : ∃ n, A.length = n := ⟨_, rfl⟩
  obtain ⟨nB, hnB⟩ : ∃ n, B.length = n := ⟨_, rfl⟩
  rw [hnA] at hlA ⊢
  rw [hnB] at hlB ⊢
  have NA := Lib.hid hnA
  have NB := Lib.hid hnB
  clear hnA hnB
  by_cases h1 : 60 < nA
  · go_enter Try.func4, Try.ntmps4
    go_wp2_with (fail)
    refine (spworks_any w).mono ?_
    rintro e w1 ⟨rfl, hb⟩
    go_wp2_with (fail)
    go_returns
    exact ⟨rfl, hb⟩
  by_cases h2 : 60 < nB
  · go_enter Try.func4, Try.ntmps4
    go_wp2_with (fail)
    refine (spworks_any w).mono ?_
    rintro e w1 ⟨rfl, hb⟩
    go_wp2_with (fail)
    go_returns
    exact ⟨rfl, hb⟩
  have lA : Hid (A.length ≤ 60) := Lib.hid (by have := NA.out; omega)
  have lB : Hid (B.length ≤ 60) := Lib.hid (by have := NB.out; omega)
  have EA : Hid (Char A A B (fun x y => x)) := Lib.hid (Char.a A B)
  have EB : Hid (Char B A B (fun x y => y)) := Lib.hid (Char.b A B)
  have X0 : Hid (Below w.heap.size w w) := Lib.hid (Below.refl _ _)
  have V0 : Hid (AllR w [(a, cap, A), (b, cap', B)]) := Lib.hid (AllR.cons HA.out (AllR.cons HB.out (AllR.nil _)))
  clear HA HB
  go_enter Try.func4, Try.ntmps4
  go_wp2_with (fail)
  refine (add_any a b nA nB cap cap' A B w NA.out.symm NB.out.symm (V0.out (a, cap, A) (by simp)) (V0.out (b, cap', B) (by simp)) (by have := lA.out; omega) (by have := lB.out; omega)).mono ?_
  rintro e x1 ⟨hb1, a1, c1, M1, rfl, ho1, hM1, hn1, hl1⟩
  have N1 : Hid (NeatFrom (-1) M1) := Lib.hid hn1.neat
  have E1 : Hid (Char M1 A B (fun x y => x || y)) := Lib.hid (Char.add EA.out EB.out hn1 (by decide))
  have L1 : Hid (M1.length ≤ 1000) := Lib.hid (by have := lA.out; have := lB.out; omega)
  have X1 : Hid (Below w.heap.size w x1) := Lib.hid (below_on X0.out hb1 X0.out.size)
  have V1 : Hid (AllR x1 [(a1, c1, M1), (a, cap, A), (b, cap', B)]) := Lib.hid (AllR.cons (ho1.rs hM1).2 (V0.out.below hb1))
  clear ho1 hM1 hn1 hb1 hl1 V0
  go_wp2_with (fail)
  refine (cut_any a b nA nB cap cap' A B x1 NA.out.symm NB.out.symm (V1.out (a, cap, A) (by simp)) (V1.out (b, cap', B) (by simp)) (by have := lA.out; omega) (by have := lB.out; omega)).mono ?_
  rintro e x2 ⟨hb1, a2, c2, M2, rfl, ho1, hM1, hn1, hl1⟩
  have N2 : Hid (NeatFrom (-1) M2) := Lib.hid hn1.neat
  have E2 : Hid (Char M2 A B (fun x y => x && !y)) := Lib.hid (Char.cut EA.out EB.out hn1 (by decide))
  have L2 : Hid (M2.length ≤ 10000) := Lib.hid (by have := lA.out; have := lB.out; omega)
  have X2 : Hid (Below w.heap.size w x2) := Lib.hid (below_on X1.out hb1 X1.out.size)
  have V2 : Hid (AllR x2 [(a2, c2, M2), (a1, c1, M1), (a, cap, A), (b, cap', B)]) := Lib.hid (AllR.cons (ho1.rs hM1).2 (V1.out.below hb1))
  clear ho1 hM1 hn1 hb1 hl1 V1
  go_wp2_with (fail)
  refine (both_any a b nA nB cap cap' A B x2 NA.out.symm NB.out.symm (V2.out (a, cap, A) (by simp)) (V2.out (b, cap', B) (by simp)) (by have := lA.out; omega) (by have := lB.out; omega)).mono ?_
  rintro e x3 ⟨hb1, a3, c3, M3, rfl, ho1, hM1, hn1, hl1⟩
  have N3 : Hid (NeatFrom (-1) M3) := Lib.hid hn1.neat
  have E3 : Hid (Char M3 A B (fun x y => x && y)) := Lib.hid (Char.both EA.out EB.out hn1 (by decide))
  have L3 : Hid (M3.length ≤ 10000) := Lib.hid (by have := lA.out; have := lB.out; omega)
  have X3 : Hid (Below w.heap.size w x3) := Lib.hid (below_on X2.out hb1 X2.out.size)
  have V3 : Hid (AllR x3 [(a3, c3, M3), (a2, c2, M2), (a1, c1, M1), (a, cap, A), (b, cap', B)]) := Lib.hid (AllR.cons (ho1.rs hM1).2 (V2.out.below hb1))
  clear ho1 hM1 hn1 hb1 hl1 V2
  go_wp2_with (fail)
  refine (neat_any a1 M1.length c1 M1 x3 rfl (V3.out (a1, c1, M1) (by simp))).mono ?_
  rintro e x4 ⟨hb1, v, rfl, hv⟩
  obtain rfl : v = true := hv.2 N1.out
  have X4 : Hid (Below w.heap.size w x4) := Lib.hid (below_on X3.out hb1 X3.out.size)
  have V4 : Hid (AllR x4 [(a3, c3, M3), (a2, c2, M2), (a1, c1, M1), (a, cap, A), (b, cap', B)]) := Lib.hid (V3.out.below hb1)
  clear hb1 hv V3
  go_wp2_with (fail)
  refine (neat_any a2 M2.length c2 M2 x4 rfl (V4.out (a2, c2, M2) (by simp))).mono ?_
  rintro e x5 ⟨hb1, v, rfl, hv⟩
  obtain rfl : v = true := hv.2 N2.out
  have X5 : Hid (Below w.heap.size w x5) := Lib.hid (below_on X4.out hb1 X4.out.size)
  have V5 : Hid (AllR x5 [(a3, c3, M3), (a2, c2, M2), (a1, c1, M1), (a, cap, A), (b, cap', B)]) := Lib.hid (V4.out.below hb1)
  clear hb1 hv V4
  go_wp2_with (fail)
  refine (neat_any a3 M3.length c3 M3 x5 rfl (V5.out (a3, c3, M3) (by simp))).mono ?_
  rintro e x6 ⟨hb1, v, rfl, hv⟩
  obtain rfl : v = true := hv.2 N3.out
  have X6 : Hid (Below w.heap.size w x6) := Lib.hid (below_on X5.out hb1 X5.out.size)
  have V6 : Hid (AllR x6 [(a3, c3, M3), (a2, c2, M2), (a1, c1, M1), (a, cap, A), (b, cap', B)]) := Lib.hid (V5.out.below hb1)
  clear hb1 hv V5
  go_wp2_with (fail)
  refine (add_any b a nB nA cap' cap B A x6 NB.out.symm NA.out.symm (V6.out (b, cap', B) (by simp)) (V6.out (a, cap, A) (by simp)) (by have := lB.out; omega) (by have := lA.out; omega)).mono ?_
  rintro e x7 ⟨hb1, a7, c7, M7, rfl, ho1, hM1, hn1, hl1⟩
  have N7 : Hid (NeatFrom (-1) M7) := Lib.hid hn1.neat
  have E7 : Hid (Char M7 A B (fun x y => x || y)) := Lib.hid (Char.add EB.out EA.out hn1 (by decide))
  have L7 : Hid (M7.length ≤ 1000) := Lib.hid (by have := lB.out; have := lA.out; omega)
  have X7 : Hid (Below w.heap.size w x7) := Lib.hid (below_on X6.out hb1 X6.out.size)
  have V7 : Hid (AllR x7 [(a7, c7, M7), (a3, c3, M3), (a2, c2, M2), (a1, c1, M1), (a, cap, A), (b, cap', B)]) := Lib.hid (AllR.cons (ho1.rs hM1).2 (V6.out.below hb1))
  clear ho1 hM1 hn1 hb1 hl1 V6
  go_wp2_with (fail)
  have heq : M1 = M7 := Char.unique E1.out E7.out N1.out N7.out
  refine (same_any a1 a7 M1.length M7.length c1 c7 M1 M7 x7 rfl rfl (V7.out (a1, c1, M1) (by simp)) (V7.out (a7, c7, M7) (by simp))).mono ?_
  rintro e x8 ⟨hb1, rfl⟩
  have X8 : Hid (Below w.heap.size w x8) := Lib.hid (below_on X7.out hb1 X7.out.size)
  have V8 : Hid (AllR x8 [(a7, c7, M7), (a3, c3, M3), (a2, c2, M2), (a1, c1, M1), (a, cap, A), (b, cap', B)]) := Lib.hid (V7.out.below hb1)
  simp only [decide_eq_true heq]
  clear hb1 heq V7
  go_wp2_with (fail)
  refine (add_any a1 a M1.length nA c1 cap M1 A x8 rfl NA.out.symm (V8.out (a1, c1, M1) (by simp)) (V8.out (a, cap, A) (by simp)) (by have := L1.out; omega) (by have := lA.out; omega)).mono ?_
  rintro e x9 ⟨hb1, a9, c9, M9, rfl, ho1, hM1, hn1, hl1⟩
  have N9 : Hid (NeatFrom (-1) M9) := Lib.hid hn1.neat
  have E9 : Hid (Char M9 A B (fun x y => x || y)) := Lib.hid (Char.add E1.out EA.out hn1 (by decide))
  have L9 : Hid (M9.length ≤ 3000) := Lib.hid (by have := L1.out; have := lA.out; omega)
  have X9 : Hid (Below w.heap.size w x9) := Lib.hid (below_on X8.out hb1 X8.out.size)
  have V9 : Hid (AllR x9 [(a9, c9, M9), (a7, c7, M7), (a3, c3, M3), (a2, c2, M2), (a1, c1, M1), (a, cap, A), (b, cap', B)]) := Lib.hid (AllR.cons (ho1.rs hM1).2 (V8.out.below hb1))
  clear ho1 hM1 hn1 hb1 hl1 V8
  go_wp2_with (fail)
  have heq : M1 = M9 := Char.unique E1.out E9.out N1.out N9.out
  refine (same_any a1 a9 M1.length M9.length c1 c9 M1 M9 x9 rfl rfl (V9.out (a1, c1, M1) (by simp)) (V9.out (a9, c9, M9) (by simp))).mono ?_
  rintro e x10 ⟨hb1, rfl⟩
  have X10 : Hid (Below w.heap.size w x10) := Lib.hid (below_on X9.out hb1 X9.out.size)
  have V10 : Hid (AllR x10 [(a9, c9, M9), (a7, c7, M7), (a3, c3, M3), (a2, c2, M2), (a1, c1, M1), (a, cap, A), (b, cap', B)]) := Lib.hid (V9.out.below hb1)
  simp only [decide_eq_true heq]
  clear hb1 heq V9
  go_wp2_with (fail)
  go_loopw [8, 9] (fun o i wr => ∃ (k : Nat) (a' : Option Addr) (n' c' : Nat) (O : List Rg), i = .int .i64 ((k : Int) - 1) ∧ o = .slice a' n' c' ∧ k ≤ nB ∧ Below x10.heap.size x10 wr ∧ Hid (n' = O.length ∧ Rs wr a' c' O ∧ IsNf (MemR (B.drop k)) O ∧ O.length + k ≤ 60)) (fun _ i _ => (intOf i + 1).toNat)
  case atStart => exact ⟨nB, none, 0, 0, [], by go_num, rfl, by omega, Below.refl _ _, Lib.hid ⟨rfl, Rs.nil _, by rw [← NB.out, List.drop_length]; exact ⟨trivial, fun n => Iff.rfl⟩, by simp; omega⟩⟩
  case round =>
    obtain ⟨k, a', n', c', O, rfl, rfl, hk, bw, hok⟩ := hrel
    by_cases hk0 : 0 < k
    · obtain ⟨m, rfl⟩ : ∃ m, k = m + 1 := ⟨k - 1, by omega⟩
      have hmI : ((m + 1 : Nat) : Int) - 1 = (m : Int) := by omega
      rw [hmI]
      obtain ⟨hO1, hO2, hO3, hO4⟩ := hok.out
      obtain ⟨bb, off, ha, hb, e1, e2⟩ := Rs.at_ (show Rs wr b cap' B from (V10.out (b, cap', B) (by simp)).below bw) (i := m) (by rw [NB.out]; omega)
      have hbd := BB.out.getD (i := m) (by rw [NB.out]; omega)
      have hdr : B.drop m = B.getD m default :: B.drop (m + 1) := by
        have hm : m < B.length := by rw [NB.out]; omega
        rw [List.drop_eq_getElem_cons hm]
        simp [hm]
      obtain ⟨r, hr⟩ : ∃ r, B.getD m default = r := ⟨_, rfl⟩
      rw [hr] at e1 e2 hbd hdr
      have HO1 := Lib.hid hO1
      have HO2 := Lib.hid hO2
      have HO3 := Lib.hid hO3
      have HO4 := Lib.hid hO4
      have HDR := Lib.hid hdr
      clear hO1 hO2 hO3 hO4 hok hr hdr hmI
      subst ha
      have hs1 : Rs (wr.alloc (.cells #[.int .u64 r.1, .int .u64 r.2] 31)) (some ⟨wr.heap.size, 0, none⟩) 1 [r] := Rs.of (by simp) (fun i hi => by
        have hcell := Blk.new wr #[.int .u64 r.1, .int .u64 r.2] 31
        match i, hi with
        | 0, _ => exact hcell.cell 0 _ rfl
        | 1, _ => exact hcell.cell 1 _ rfl
        | i + 2, hi => exact absurd (show i + 2 < 2 from hi) (by omega)) (fun s hs => by rw [List.mem_singleton.1 hs]; exact hbd) (by simp) (by simp [maxLen])
      have hs2 := HO2.out.below ((Below.refl wr.heap.size wr).alloc (Nat.le_refl _) (.cells #[.int .u64 r.1, .int .u64 r.2] 31))
      have HS1 := Lib.hid hs1
      have HS2 := Lib.hid hs2
      clear hs1 hs2
      go_wp2_with (fail)
      refine (add_any a' (some ⟨wr.heap.size, 0, none⟩) n' 1 c' 1 O [r] _ HO1.out rfl HS2.out HS1.out (by have := HO4.out; omega) (by simp)).mono ?_
      rintro e w2 ⟨hb2, a2, c2, M, rfl, ho2, hM2, hn2, hl2⟩
      have HR2 := Lib.hid (ho2.rs hM2).2
      have HN2 := Lib.hid hn2
      have HL2 := Lib.hid hl2
      have b2 : Below x10.heap.size x10 w2 := below_on (bw.alloc bw.size _) hb2 (by have := bw.size; simp; omega)
      clear ho2 hM2 hn2 hl2 hb2
      go_wp2_with (fail)
      refine ⟨⟨m, a2, _, c2, M, rfl, rfl, by omega, b2, Lib.hid ⟨rfl, HR2.out, HN2.out.congr (fun n => ?_), by have h1 := HL2.out; have h2 := HO4.out; simp only [List.length_singleton] at h1; omega⟩⟩, by simp [intOf]⟩
      rw [HDR.out, memR_append, HO3.out.mem n, memR_cons, memR_cons]
      have : MemR [] n ↔ False := by simp [memR_nil]
      rw [this, or_false]
      exact Or.comm
    · obtain rfl : k = 0 := by omega
      obtain ⟨hO1, hO2, hO3, hO4⟩ := hok.out
      have HO1 := Lib.hid hO1.symm
      have V11 : Hid (AllR wr [(a', c', O), (a9, c9, M9), (a7, c7, M7), (a3, c3, M3), (a2, c2, M2), (a1, c1, M1), (a, cap, A), (b, cap', B)]) := Lib.hid (AllR.cons hO2 (V10.out.below bw))
      have EO : Hid (Char O A B (fun x y => y)) := Lib.hid (fun n => inB_congr (by simpa using hO3.mem) n)
      have NO : Hid (NeatFrom (-1) O) := Lib.hid hO3.neat
      have LO : Hid (O.length ≤ 60) := Lib.hid (by omega)
      have X11 := Lib.hid (below_on X10.out bw X10.out.size)
      have hend : ((0 : Nat) : Int) - 1 = -1 := by omega
      rw [hend]
      clear hO1 hO2 hO3 hO4 hok bw V10 hend
      go_wp2_with (fail)
      refine (add_any a' a n' nA c' cap O A wr HO1.out.symm NA.out.symm (V11.out (a', c', O) (by simp)) (V11.out (a, cap, A) (by simp)) (by have := LO.out; omega) (by have := lA.out; omega)).mono ?_
      rintro e x12 ⟨hb1, a12, c12, M12, rfl, ho1, hM1, hn1, hl1⟩
      have N12 : Hid (NeatFrom (-1) M12) := Lib.hid hn1.neat
      have E12 : Hid (Char M12 A B (fun x y => x || y)) := Lib.hid (Char.add EO.out EA.out hn1 (by decide))
      have L12 : Hid (M12.length ≤ 1000) := Lib.hid (by have := LO.out; have := lA.out; omega)
      have X12 : Hid (Below w.heap.size w x12) := Lib.hid (below_on X11.out hb1 X11.out.size)
      have V12 : Hid (AllR x12 [(a12, c12, M12), (a', c', O), (a9, c9, M9), (a7, c7, M7), (a3, c3, M3), (a2, c2, M2), (a1, c1, M1), (a, cap, A), (b, cap', B)]) := Lib.hid (AllR.cons (ho1.rs hM1).2 (V11.out.below hb1))
      clear ho1 hM1 hn1 hb1 hl1 V11
      go_wp2_with (fail)
      have heq : M12 = M1 := Char.unique E12.out E1.out N12.out N1.out
      refine (same_any a12 a1 M12.length M1.length c12 c1 M12 M1 x12 rfl rfl (V12.out (a12, c12, M12) (by simp)) (V12.out (a1, c1, M1) (by simp))).mono ?_
      rintro e x13 ⟨hb1, rfl⟩
      have X13 : Hid (Below w.heap.size w x13) := Lib.hid (below_on X12.out hb1 X12.out.size)
      have V13 : Hid (AllR x13 [(a12, c12, M12), (a', c', O), (a9, c9, M9), (a7, c7, M7), (a3, c3, M3), (a2, c2, M2), (a1, c1, M1), (a, cap, A), (b, cap', B)]) := Lib.hid (V12.out.below hb1)
      simp only [decide_eq_true heq]
      clear hb1 heq V12
      go_wp2_with (fail)
      refine (both_any b a nB nA cap' cap B A x13 NB.out.symm NA.out.symm (V13.out (b, cap', B) (by simp)) (V13.out (a, cap, A) (by simp)) (by have := lB.out; omega) (by have := lA.out; omega)).mono ?_
      rintro e x14 ⟨hb1, a14, c14, M14, rfl, ho1, hM1, hn1, hl1⟩
      have N14 : Hid (NeatFrom (-1) M14) := Lib.hid hn1.neat
      have E14 : Hid (Char M14 A B (fun x y => x && y)) := Lib.hid (Char.both EB.out EA.out hn1 (by decide))
      have L14 : Hid (M14.length ≤ 10000) := Lib.hid (by have := lB.out; have := lA.out; omega)
      have X14 : Hid (Below w.heap.size w x14) := Lib.hid (below_on X13.out hb1 X13.out.size)
      have V14 : Hid (AllR x14 [(a14, c14, M14), (a12, c12, M12), (a', c', O), (a9, c9, M9), (a7, c7, M7), (a3, c3, M3), (a2, c2, M2), (a1, c1, M1), (a, cap, A), (b, cap', B)]) := Lib.hid (AllR.cons (ho1.rs hM1).2 (V13.out.below hb1))
      clear ho1 hM1 hn1 hb1 hl1 V13
      go_wp2_with (fail)
      have heq : M14 = M3 := Char.unique E14.out E3.out N14.out N3.out
      refine (same_any a14 a3 M14.length M3.length c14 c3 M14 M3 x14 rfl rfl (V14.out (a14, c14, M14) (by simp)) (V14.out (a3, c3, M3) (by simp))).mono ?_
      rintro e x15 ⟨hb1, rfl⟩
      have X15 : Hid (Below w.heap.size w x15) := Lib.hid (below_on X14.out hb1 X14.out.size)
      have V15 : Hid (AllR x15 [(a14, c14, M14), (a12, c12, M12), (a', c', O), (a9, c9, M9), (a7, c7, M7), (a3, c3, M3), (a2, c2, M2), (a1, c1, M1), (a, cap, A), (b, cap', B)]) := Lib.hid (V14.out.below hb1)
      simp only [decide_eq_true heq]
      clear hb1 heq V14
      go_wp2_with (fail)
      refine (add_any a none nA 0 cap 0 A [] x15 NA.out.symm rfl (V15.out (a, cap, A) (by simp)) (Rs.nil _) (by have := lA.out; omega) (by simp)).mono ?_
      rintro e x16 ⟨hb1, a16, c16, M16, rfl, ho1, hM1, hn1, hl1⟩
      rw [List.append_nil] at hn1
      have N16 : Hid (NeatFrom (-1) M16) := Lib.hid hn1.neat
      have E16 : Hid (Char M16 A B (fun x y => x)) := Lib.hid (fun n => inB_congr hn1.mem n)
      have L16 : Hid (M16.length ≤ 1000) := Lib.hid (by have := lA.out; simp only [List.length_nil] at hl1; omega)
      have X16 : Hid (Below w.heap.size w x16) := Lib.hid (below_on X15.out hb1 X15.out.size)
      have V16 : Hid (AllR x16 [(a16, c16, M16), (a14, c14, M14), (a12, c12, M12), (a', c', O), (a9, c9, M9), (a7, c7, M7), (a3, c3, M3), (a2, c2, M2), (a1, c1, M1), (a, cap, A), (b, cap', B)]) := Lib.hid (AllR.cons (ho1.rs hM1).2 (V15.out.below hb1))
      clear ho1 hM1 hn1 hb1 hl1 V15
      go_wp2_with (fail)
      refine (add_any a2 a3 M2.length M3.length c2 c3 M2 M3 x16 rfl rfl (V16.out (a2, c2, M2) (by simp)) (V16.out (a3, c3, M3) (by simp)) (by have := L2.out; omega) (by have := L3.out; omega)).mono ?_
      rintro e x17 ⟨hb1, a17, c17, M17, rfl, ho1, hM1, hn1, hl1⟩
      have N17 : Hid (NeatFrom (-1) M17) := Lib.hid hn1.neat
      have E17 : Hid (Char M17 A B (fun x y => x)) := Lib.hid (Char.add E2.out E3.out hn1 (by decide))
      have L17 : Hid (M17.length ≤ 100000) := Lib.hid (by have := L2.out; have := L3.out; omega)
      have X17 : Hid (Below w.heap.size w x17) := Lib.hid (below_on X16.out hb1 X16.out.size)
      have V17 : Hid (AllR x17 [(a17, c17, M17), (a16, c16, M16), (a14, c14, M14), (a12, c12, M12), (a', c', O), (a9, c9, M9), (a7, c7, M7), (a3, c3, M3), (a2, c2, M2), (a1, c1, M1), (a, cap, A), (b, cap', B)]) := Lib.hid (AllR.cons (ho1.rs hM1).2 (V16.out.below hb1))
      clear ho1 hM1 hn1 hb1 hl1 V16
      go_wp2_with (fail)
      have heq : M17 = M16 := Char.unique E17.out E16.out N17.out N16.out
      refine (same_any a17 a16 M17.length M16.length c17 c16 M17 M16 x17 rfl rfl (V17.out (a17, c17, M17) (by simp)) (V17.out (a16, c16, M16) (by simp))).mono ?_
      rintro e x18 ⟨hb1, rfl⟩
      have X18 : Hid (Below w.heap.size w x18) := Lib.hid (below_on X17.out hb1 X17.out.size)
      have V18 : Hid (AllR x18 [(a17, c17, M17), (a16, c16, M16), (a14, c14, M14), (a12, c12, M12), (a', c', O), (a9, c9, M9), (a7, c7, M7), (a3, c3, M3), (a2, c2, M2), (a1, c1, M1), (a, cap, A), (b, cap', B)]) := Lib.hid (V17.out.below hb1)
      simp only [decide_eq_true heq]
      clear hb1 heq V17
      go_wp2_with (fail)
      refine (both_any a2 a3 M2.length M3.length c2 c3 M2 M3 x18 rfl rfl (V18.out (a2, c2, M2) (by simp)) (V18.out (a3, c3, M3) (by simp)) (by have := L2.out; omega) (by have := L3.out; omega)).mono ?_
      rintro e x19 ⟨hb1, a19, c19, M19, rfl, ho1, hM1, hn1, hl1⟩
      have N19 : Hid (NeatFrom (-1) M19) := Lib.hid hn1.neat
      have E19 : Hid (Char M19 A B (fun x y => false)) := Lib.hid (Char.both E2.out E3.out hn1 (by decide))
      have L19 : Hid (M19.length ≤ 100000) := Lib.hid (by have := L2.out; have := L3.out; omega)
      have X19 : Hid (Below w.heap.size w x19) := Lib.hid (below_on X18.out hb1 X18.out.size)
      have V19 : Hid (AllR x19 [(a19, c19, M19), (a17, c17, M17), (a16, c16, M16), (a14, c14, M14), (a12, c12, M12), (a', c', O), (a9, c9, M9), (a7, c7, M7), (a3, c3, M3), (a2, c2, M2), (a1, c1, M1), (a, cap, A), (b, cap', B)]) := Lib.hid (AllR.cons (ho1.rs hM1).2 (V18.out.below hb1))
      clear ho1 hM1 hn1 hb1 hl1 V18
      have hnil : M19 = [] := nf_nil ⟨N19.out, fun n => by rw [← inB_iff, E19.out n]; simp⟩
      have hlen0 : M19.length = 0 := by rw [hnil]; rfl
      rw [hlen0]
      clear hnil hlen0
      go_wp2_with (fail)
      refine (count_any a2 M2.length c2 M2 x19 rfl (V19.out (a2, c2, M2) (by simp)) (by have := L2.out; omega)).mono ?_
      rintro e x20 ⟨hb1, K20, hK, _, rfl⟩
      obtain rfl : M2 = K20 := nf_of_nf ⟨N2.out, fun n => Iff.rfl⟩ hK
      have X20 : Hid (Below w.heap.size w x20) := Lib.hid (below_on X19.out hb1 X19.out.size)
      have V20 : Hid (AllR x20 [(a19, c19, M19), (a17, c17, M17), (a16, c16, M16), (a14, c14, M14), (a12, c12, M12), (a', c', O), (a9, c9, M9), (a7, c7, M7), (a3, c3, M3), (a2, c2, M2), (a1, c1, M1), (a, cap, A), (b, cap', B)]) := Lib.hid (V19.out.below hb1)
      clear hb1 hK V19
      go_wp2_with (fail)
      refine (count_any a3 M3.length c3 M3 x20 rfl (V20.out (a3, c3, M3) (by simp)) (by have := L3.out; omega)).mono ?_
      rintro e x21 ⟨hb1, K21, hK, _, rfl⟩
      obtain rfl : M3 = K21 := nf_of_nf ⟨N3.out, fun n => Iff.rfl⟩ hK
      have X21 : Hid (Below w.heap.size w x21) := Lib.hid (below_on X20.out hb1 X20.out.size)
      have V21 : Hid (AllR x21 [(a19, c19, M19), (a17, c17, M17), (a16, c16, M16), (a14, c14, M14), (a12, c12, M12), (a', c', O), (a9, c9, M9), (a7, c7, M7), (a3, c3, M3), (a2, c2, M2), (a1, c1, M1), (a, cap, A), (b, cap', B)]) := Lib.hid (V20.out.below hb1)
      clear hb1 hK V20
      have hsum := countR_add N2.out N3.out N16.out (fun n => by rw [E16.out n, E2.out n, E3.out n]; generalize inB A n = x; generalize inB B n = y; cases x <;> cases y <;> rfl) (fun n => by rw [E2.out n, E3.out n]; generalize inB A n = x; generalize inB B n = y; cases x <;> cases y <;> simp)
      have hmax := countR_max N16.out (show Rs x21 a16 c16 M16 from (V21.out (a16, c16, M16) (by simp))).bnd
      have hmin := (countR_le N16.out).1
      have hw : IntKind.u64.wrap (countR M2 + countR M3) = countR M16 := by rw [hsum, IntKind.wrap_u64]; omega
      clear hsum hmax hmin
      go_wp2_with (fail)
      refine (count_any a16 M16.length c16 M16 x21 rfl (V21.out (a16, c16, M16) (by simp)) (by have := L16.out; omega)).mono ?_
      rintro e x22 ⟨hb1, K22, hK, _, rfl⟩
      obtain rfl : M16 = K22 := nf_of_nf ⟨N16.out, fun n => Iff.rfl⟩ hK
      have X22 : Hid (Below w.heap.size w x22) := Lib.hid (below_on X21.out hb1 X21.out.size)
      have V22 : Hid (AllR x22 [(a19, c19, M19), (a17, c17, M17), (a16, c16, M16), (a14, c14, M14), (a12, c12, M12), (a', c', O), (a9, c9, M9), (a7, c7, M7), (a3, c3, M3), (a2, c2, M2), (a1, c1, M1), (a, cap, A), (b, cap', B)]) := Lib.hid (V21.out.below hb1)
      clear hb1 hK V21
      go_wp2_with (fail)
      refine (cut_any a1 b M1.length nB c1 cap' M1 B x22 rfl NB.out.symm (V22.out (a1, c1, M1) (by simp)) (V22.out (b, cap', B) (by simp)) (by have := L1.out; omega) (by have := lB.out; omega)).mono ?_
      rintro e x23 ⟨hb1, a23, c23, M23, rfl, ho1, hM1, hn1, hl1⟩
      have N23 : Hid (NeatFrom (-1) M23) := Lib.hid hn1.neat
      have E23 : Hid (Char M23 A B (fun x y => x && !y)) := Lib.hid (Char.cut E1.out EB.out hn1 (by decide))
      have L23 : Hid (M23.length ≤ 100000) := Lib.hid (by have := L1.out; have := lB.out; omega)
      have X23 : Hid (Below w.heap.size w x23) := Lib.hid (below_on X22.out hb1 X22.out.size)
      have V23 : Hid (AllR x23 [(a23, c23, M23), (a19, c19, M19), (a17, c17, M17), (a16, c16, M16), (a14, c14, M14), (a12, c12, M12), (a', c', O), (a9, c9, M9), (a7, c7, M7), (a3, c3, M3), (a2, c2, M2), (a1, c1, M1), (a, cap, A), (b, cap', B)]) := Lib.hid (AllR.cons (ho1.rs hM1).2 (V22.out.below hb1))
      clear ho1 hM1 hn1 hb1 hl1 V22
      go_wp2_with (fail)
      have heq : M23 = M2 := Char.unique E23.out E2.out N23.out N2.out
      refine (same_any a23 a2 M23.length M2.length c23 c2 M23 M2 x23 rfl rfl (V23.out (a23, c23, M23) (by simp)) (V23.out (a2, c2, M2) (by simp))).mono ?_
      rintro e x24 ⟨hb1, rfl⟩
      have X24 : Hid (Below w.heap.size w x24) := Lib.hid (below_on X23.out hb1 X23.out.size)
      have V24 : Hid (AllR x24 [(a23, c23, M23), (a19, c19, M19), (a17, c17, M17), (a16, c16, M16), (a14, c14, M14), (a12, c12, M12), (a', c', O), (a9, c9, M9), (a7, c7, M7), (a3, c3, M3), (a2, c2, M2), (a1, c1, M1), (a, cap, A), (b, cap', B)]) := Lib.hid (V23.out.below hb1)
      simp only [decide_eq_true heq]
      clear hb1 heq V23
      go_wp2_with (fail)
      refine (spworks_any x24).mono ?_
      rintro e z5 ⟨rfl, hb5⟩
      have Z5 := Lib.hid (below_on X24.out hb5 X24.out.size)
      clear hb5
      go_wp2_with (fail)
      go_returns
      exact ⟨rfl, Z5.out⟩

set_option maxRecDepth 100000 in
theorem walk_SpanSets (H : Type) (enc : TypeId × Value → H) (w : World) (base : Nat) (v0 : Value) (d0 : DataW H) (p0 : List MemPlace) (v1 : Value) (d1 : DataW H) (p1 : List MemPlace)
    (o0 : Value.okWide Try.prog w .any base 22 v0) (h0 : DataW.Trod enc Try.prog w 0 (fun _ => true) true 22 v0 d0 p0)
    (o1 : Value.okWide Try.prog w .any base 22 v1) (h1 : DataW.Trod enc Try.prog w 0 (fun _ => true) true 22 v1 d1 p1) :
    Calls Try.prog 4 #[v0, v1] w fun e w' => e = .returned (.bool true) ∧ Below w.heap.size w w' := by
  obtain ⟨a, L, cap, rfl, hS⟩ := open_rgs o0 h0
  obtain ⟨c, N, ccap, rfl, hN⟩ := open_rgs o1 h1
  exact sets_law a c cap ccap L N w hS hN
end Go.Proofs.Ytidfimpchbkppaa
