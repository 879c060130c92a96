/- The document's spare. -/
import Derived.Test.YtcpjehgoeibbeaaFrE1
import Derived.Deep.Cut
namespace Go.Proofs.Ytcpjehgoeibbeaa
open Go.RowKit
set_option linter.unusedVariables false
namespace Frm
open Var
def tokB (t : List Int) : Bool := t.any (fun x => decide (x ≠ 0))
def sp0 (s : List UInt8) (f : Fr) : Bool := !(s.contains 105 || s == [83]) && (f.id != 0)
def sp1 (s : List UInt8) (f : Fr) : Bool := !(s.contains 111 || s == [83]) && (f.off != 0)
def sp2 (s : List UInt8) (f : Fr) : Bool := !s.contains 109 && (f.max != 0)
def sp3 (s : List UInt8) (f : Fr) : Bool := !s.contains 99 && (f.code != 0)
def sp4 (s : List UInt8) (f : Fr) : Bool := !(s == [80]) && (f.n != 0)
def sp5 (s : List UInt8) (f : Fr) : Bool := !(s == [83]) && f.fin
def sp6 (s : List UInt8) (f : Fr) : Bool := !(s.contains 100 || s.contains 68 || s == [83]) && decide (0 < f.data.length)
def sp7 (s : List UInt8) (f : Fr) : Bool := !s.contains 67 && (decide (0 < f.cid.length) || tokB f.tok)
def sp8 (s : List UInt8) (f : Fr) : Bool := !(s == [65] || s == [69]) && (decide (0 < f.acks.length) || (f.delay != 0))
def sp9 (s : List UInt8) (f : Fr) : Bool := !(s == [69]) && ((f.e0 != 0) || (f.e1 != 0) || (f.e2 != 0))
def spareB (s : List UInt8) (f : Fr) : Bool := sp0 s f || sp1 s f || sp2 s f || sp3 s f || sp4 s f || sp5 s f || sp6 s f || sp7 s f || sp8 s f || sp9 s f
theorem tokB_iff {t : List Int} (h : t.length = 16) : tokB t = false ↔ t = tok0 := by
  unfold tokB tok0
  rw [List.any_eq_false, List.eq_replicate_iff]
  simp [h]
theorem fr_cases {k : Int} (h : isFr k = true) : k = 0 ∨ k = 1 ∨ k = 2 ∨ k = 3 ∨ k = 4 ∨ k = 5 ∨ k = 6 ∨ k = 7 ∨ k = 8 ∨ k = 16 ∨ k = 17 ∨ k = 18 ∨ k = 19 ∨ k = 20 ∨ k = 21 ∨ k = 22 ∨ k = 23 ∨ k = 24 ∨ k = 25 ∨ k = 26 ∨ k = 27 ∨ k = 28 ∨ k = 29 ∨ k = 30 := by
  simp only [isFr, Bool.and_eq_true, Bool.not_eq_true', Bool.and_eq_false_iff, decide_eq_true_eq, decide_eq_false_iff_not] at h
  omega

theorem spareB_plain {f : Fr} (h : isFr f.kind = true) (h16 : f.tok.length = 16) : spareB (formS f.kind) f = !nothing (bareF f) := by
  have ht := tokB_iff h16
  have hc := fr_cases h
  obtain ⟨kind, id, off, max, code, n, fin, data, cid, tok, acks, delay, e0, e1, e2⟩ := f
  dsimp only at hc ht
  suffices hs : spareB (formS kind) ⟨kind, id, off, max, code, n, fin, data, cid, tok, acks, delay, e0, e1, e2⟩ = false ↔ nothing (bareF ⟨kind, id, off, max, code, n, fin, data, cid, tok, acks, delay, e0, e1, e2⟩) = true by
    revert hs
    dsimp only
    generalize spareB _ _ = a
    generalize nothing _ = b
    cases a <;> cases b <;> simp
  rcases hc with rfl | rfl | rfl | rfl | rfl | rfl | rfl | rfl | rfl | rfl | rfl | rfl | rfl | rfl | rfl | rfl | rfl | rfl | rfl | rfl | rfl | rfl | rfl | rfl <;>
  · simp only [spareB, sp0, sp1, sp2, sp3, sp4, sp5, sp6, sp7, sp8, sp9, Bool.or_eq_false_iff, Bool.and_eq_false_iff, nothing, Bool.and_eq_true, decide_eq_true_eq, decide_eq_false_iff_not, Bool.not_eq_true', Bool.not_eq_false', bne_eq_false_iff_eq, ht]
    simp [formS, bareF, hId, hOff, hMax, hCode, hN, hFin, hData, hCid, hAck, hEcn]
    try (constructor <;> intro h <;> simp_all <;> omega)

section
variable {P : Program} {ops : Array Oper} {Q : Exit → Act → World → Prop} {a : Act} {w : World}
/-- The ways through the next operations meet again. -/
theorem wpList_meet (n : Nat) (I : Act → Prop) {l : List Oper} (hrest : ∀ a', I a' → wpList P ops Q (l.drop n) a' w)
    (hchunk : ∀ R, (∀ a', I a' → wpList P ops Q R a' w) → wpList P ops Q (l.take n ++ R) a w) : wpList P ops Q l a w := by
  have := hchunk (l.drop n) hrest
  rwa [List.take_append_drop] at this
end
theorem bstr_eq (a b : List UInt8) : ((⟨a.toArray⟩ : ByteArray).toList == (⟨b.toArray⟩ : ByteArray).toList) = (a == b) := by
  rw [ByteArray.toList_eq, ByteArray.toList_eq]
section
variable {P : Program} {ops : Array Oper} {rest : List Oper} {o : Oper} {a : Act} {w : World} {Q : Exit → Act → World → Prop}
theorem wpList_eqv {t ty : TypeId} (hgd : Region.wanted o (yielded ops a.tmps) = true) {x y : Operand} (ho : o.op = .binOp .eql t x y ty) {s u : List UInt8} (b : Bool) (hx : a.eval x = .string ⟨s.toArray⟩) (hy : a.eval y = .string ⟨u.toArray⟩) (hb : (s == u) = b)
    (h : wpList P ops Q rest (a.put o.dst (.bool b)) w) : wpList P ops Q (o :: rest) a w := by
  refine BigFrame.wpList_want hgd fun K hK' => ?_
  have hr : binOp .eql t (.string ⟨s.toArray⟩) (.string ⟨u.toArray⟩) = pure (.bool b) := by rw [binOp_string_eql, bstr_eq, ← hb]
  have hr2 : eqGuard .eql t x y (.string ⟨s.toArray⟩) (.string ⟨u.toArray⟩) = pure () := eqGuard_at_string ..
  unfold Oper.wp
  simp only [execOp, ho, hx, hy, hr, hr2]
  simp []
  exact hK' _ _ h
theorem wpList_nev {t ty : TypeId} (hgd : Region.wanted o (yielded ops a.tmps) = true) {x y : Operand} (ho : o.op = .binOp .neq t x y ty) {s u : List UInt8} (b : Bool) (hx : a.eval x = .string ⟨s.toArray⟩) (hy : a.eval y = .string ⟨u.toArray⟩) (hb : (s == u) = b)
    (h : wpList P ops Q rest (a.put o.dst (.bool (!b))) w) : wpList P ops Q (o :: rest) a w := by
  refine BigFrame.wpList_want hgd fun K hK' => ?_
  have hr : binOp .neq t (.string ⟨s.toArray⟩) (.string ⟨u.toArray⟩) = pure (.bool (!b)) := by rw [binOp_string_neq, ← hb, ← bstr_eq s u]
  have hr2 : eqGuard .neq t x y (.string ⟨s.toArray⟩) (.string ⟨u.toArray⟩) = pure () := eqGuard_at_string ..
  unfold Oper.wp
  simp only [execOp, ho, hx, hy, hr, hr2]
  simp []
  exact hK' _ _ h
end
set_option maxHeartbeats 4000000 in
set_option maxRecDepth 100000 in
theorem spare_any (p : FM) (w : World) (hp : p.ok w) (hd : p.f.data.length ≤ 140737488355328) (hc : p.f.cid.length ≤ 140737488355328) (ha : p.f.acks.length ≤ 140737488355328) (s : List UInt8) (hl : s.length ≤ 1000) (r : Bool) (hr : spareB s p.f = r) :
    Calls Try.prog 30 #[.agg p.vals, .string ⟨s.toArray⟩] w fun e w' => e = .returned (.bool r) ∧ Below w.heap.size w w' := by
  have hboxn := Blk.new w p.vals 36
  have hw1 := (Below.refl w.heap.size w).alloc (Nat.le_refl _) (.cells p.vals 36)
  have HP := Lib.hid hp
  have H16 := Lib.hid hp.fr.tok16
  have hbig : ∀ (c : UInt8) (W : World), Calls Try.prog 53 #[.string ⟨s.toArray⟩, .int .u8 c.toNat] W fun e w' => e = .returned (.bool (s.contains c)) ∧ W = w' := fun c W => has_any s c _ W rfl hl
  have HH := Lib.hid hbig
  have HR := Lib.hid hr
  obtain ⟨bS, hS⟩ : ∃ b, (s == [83]) = b := ⟨_, rfl⟩
  obtain ⟨bA, hA⟩ : ∃ b, (s == [65]) = b := ⟨_, rfl⟩
  obtain ⟨bE, hE⟩ : ∃ b, (s == [69]) = b := ⟨_, rfl⟩
  obtain ⟨bP, hP⟩ : ∃ b, (s == [80]) = b := ⟨_, rfl⟩
  obtain ⟨bi, hi⟩ : ∃ b, s.contains 105 = b := ⟨_, rfl⟩
  obtain ⟨bo, ho⟩ : ∃ b, s.contains 111 = b := ⟨_, rfl⟩
  obtain ⟨bm, hm⟩ : ∃ b, s.contains 109 = b := ⟨_, rfl⟩
  obtain ⟨bc, hcc⟩ : ∃ b, s.contains 99 = b := ⟨_, rfl⟩
  obtain ⟨bd, hdd⟩ : ∃ b, s.contains 100 = b := ⟨_, rfl⟩
  obtain ⟨bD, hD⟩ : ∃ b, s.contains 68 = b := ⟨_, rfl⟩
  obtain ⟨bC, hC⟩ : ∃ b, s.contains 67 = b := ⟨_, rfl⟩
  have HB := Lib.hid (And.intro hS (And.intro hA (And.intro hE (And.intro hP (And.intro hi (And.intro ho (And.intro hm (And.intro hcc (And.intro hdd (And.intro hD hC))))))))))
  clear hp hbig hr hS hA hE hP hi ho hm hcc hdd hD hC
  go_enter Try.func30, Try.ntmps30

  go_upto_region 1 with (fail)
  generalize w.alloc (.cells p.vals 36) = w1 at *
  have FB1 := Lib.hid hboxn
  have K1 := Lib.hid hw1
  have fc := FB.fc hboxn H16.out
  have c1 := fc.c1
  have c2 := fc.c2
  have c3 := fc.c3
  have c4 := fc.c4
  have c5 := fc.c5
  have c6 := fc.c6
  have c7 := fc.c7
  have c8 := fc.c8
  have c25 := fc.c25
  have c26 := fc.c26
  have c27 := fc.c27
  have c28 := fc.c28
  have c29 := fc.c29
  have flt := fc.lt
  clear hboxn hw1
  obtain ⟨q0, hq0⟩ : ∃ q, (p.f.id != 0) = q := ⟨_, rfl⟩
  obtain ⟨q1, hq1⟩ : ∃ q, (p.f.off != 0) = q := ⟨_, rfl⟩
  obtain ⟨q2, hq2⟩ : ∃ q, (p.f.max != 0) = q := ⟨_, rfl⟩
  obtain ⟨q3, hq3⟩ : ∃ q, (p.f.code != 0) = q := ⟨_, rfl⟩
  obtain ⟨q4, hq4⟩ : ∃ q, (p.f.n != 0) = q := ⟨_, rfl⟩
  obtain ⟨q5, hq5⟩ : ∃ q, (p.f.delay != 0) = q := ⟨_, rfl⟩
  obtain ⟨q6, hq6⟩ : ∃ q, (p.f.e0 != 0) = q := ⟨_, rfl⟩
  obtain ⟨q7, hq7⟩ : ∃ q, (p.f.e1 != 0) = q := ⟨_, rfl⟩
  obtain ⟨q8, hq8⟩ : ∃ q, (p.f.e2 != 0) = q := ⟨_, rfl⟩
  obtain ⟨qd, hqd⟩ : ∃ q, decide (0 < p.f.data.length) = q := ⟨_, rfl⟩
  have hqdi : decide (0 < (p.f.data.length : Int)) = qd := by rw [← hqd]; simp
  obtain ⟨qc, hqc⟩ : ∃ q, decide (0 < p.f.cid.length) = q := ⟨_, rfl⟩
  have hqci : decide (0 < (p.f.cid.length : Int)) = qc := by rw [← hqc]; simp
  obtain ⟨qa, hqa⟩ : ∃ q, decide (0 < p.f.acks.length) = q := ⟨_, rfl⟩
  have hqai : decide (0 < (p.f.acks.length : Int)) = qa := by rw [← hqa]; simp
  go_wp2_with (with_reducible refine stop_eql ?_)
  refine Stop.out ?_
  refine wpList_eqv rfl rfl bS rfl rfl HB.out.1 ?_
  go_upto_region 2 with (fail)
  go_wp2_with (with_reducible refine stop_eql ?_)
  refine Stop.out ?_
  refine wpList_eqv rfl rfl bA rfl rfl HB.out.2.1 ?_
  refine wpList_join (α := Value × Value × Value) 4 (fun x : Value × Value × Value => [(18, x.1), (19, x.2.1), (20, x.2.2), (21, .bool (bA || bE))]) ?_ ?_
  rotate_left
  · intro R hR
    simp only [meet_laws, Prod.forall] at hR ⊢
    have hQ := Lib.hid hR
    clear hR
    cases bA
    · go_wp2_with (with_reducible refine stop_eql ?_)
      refine Stop.out ?_
      refine wpList_eqv rfl rfl bE rfl rfl HB.out.2.2.1 ?_
      go_wp2_with (fail)
      exact hQ.out _ _ _
    · go_wp2_with (fail)
      exact hQ.out _ _ _
  simp only [meet_laws, Prod.forall]
  intro x0_0 x0_1 x0_2
  go_upto_region 3 with (fail)
  go_wp2_with (fail)
  refine (HH.out 105 _).mono ?_
  rw [HB.out.2.2.2.2.1]
  rintro e w2 ⟨rfl, rfl⟩
  dsimp only
  go_step
  refine wpList_join (α := Value × Value) 3 (fun x : Value × Value => [(24, x.1), (25, x.2), (26, .bool (bi || bS))]) ?_ ?_
  rotate_left
  · intro R hR
    simp only [meet_laws, Prod.forall] at hR ⊢
    have hQ := Lib.hid hR
    clear hR
    cases bi
    · go_wp2_with (fail)
      exact hQ.out _ _
    · go_wp2_with (fail)
      exact hQ.out _ _
  simp only [meet_laws, Prod.forall]
  intro x1_0 x1_1
  go_upto_region 4 with (fail)
  go_wp2_with (fail)
  refine (HH.out 111 _).mono ?_
  rw [HB.out.2.2.2.2.2.1]
  rintro e w2 ⟨rfl, rfl⟩
  dsimp only
  go_step
  refine wpList_join (α := Value × Value) 3 (fun x : Value × Value => [(29, x.1), (30, x.2), (31, .bool (bo || bS))]) ?_ ?_
  rotate_left
  · intro R hR
    simp only [meet_laws, Prod.forall] at hR ⊢
    have hQ := Lib.hid hR
    clear hR
    cases bo
    · go_wp2_with (fail)
      exact hQ.out _ _
    · go_wp2_with (fail)
      exact hQ.out _ _
  simp only [meet_laws, Prod.forall]
  intro x2_0 x2_1
  go_upto_region 5 with (fail)
  go_wp2_with (fail)
  refine (HH.out 100 _).mono ?_
  rw [HB.out.2.2.2.2.2.2.2.2.1]
  rintro e w2 ⟨rfl, rfl⟩
  dsimp only
  go_step
  refine wpList_join (α := Value × Value × Value × Value × Value × Value) 7 (fun x : Value × Value × Value × Value × Value × Value => [(34, x.1), (35, x.2.1), (36, x.2.2.1), (37, x.2.2.2.1), (38, x.2.2.2.2.1), (39, x.2.2.2.2.2), (40, .bool (bd || bD || bS))]) ?_ ?_
  rotate_left
  · intro R hR
    simp only [meet_laws, Prod.forall] at hR ⊢
    have hQ := Lib.hid hR
    clear hR
    cases bd
    · go_wp2_with (fail)
      refine (HH.out 68 _).mono ?_
      rw [HB.out.2.2.2.2.2.2.2.2.2.1]
      rintro e w2 ⟨rfl, rfl⟩
      cases bD
      · go_wp2_with (fail)
        exact hQ.out _ _ _ _ _ _
      · go_wp2_with (fail)
        exact hQ.out _ _ _ _ _ _
    · go_wp2_with (fail)
      exact hQ.out _ _ _ _ _ _
  simp only [meet_laws, Prod.forall]
  intro x3_0 x3_1 x3_2 x3_3 x3_4 x3_5
  go_upto_region 6 with (fail)
  go_wp2_with (fail)
  refine (HH.out 67 _).mono ?_
  rw [HB.out.2.2.2.2.2.2.2.2.2.2]
  rintro e w2 ⟨rfl, rfl⟩
  go_upto_region 8 with (fail)
  go_wp2_with (fail)
  go_loopw [11, 12] (fun t i wr => ∃ k : Nat, i = .int .i64 k ∧ k ≤ 16 ∧ wr = w1 ∧ t = .bool (tokB (p.f.tok.take k))) (fun _ i _ => 16 - (intOf i).toNat)
  case atStart => exact ⟨0, rfl, by omega, rfl, rfl⟩
  case round =>
    obtain ⟨k, rfl, hk, rfl, rfl⟩ := hrel
    by_cases hlt : k < 16
    · have hx0 : wr.cell? ⟨w.heap.size, 9 + k, none⟩ = some (.int .u8 (p.f.tok.getD k 0)) := Blk.cell FB1.out (9 + k) _ (by rw [FM.vals, List.getElem?_toArray, p.at_tok H16.out k hlt])
      obtain ⟨q, hq⟩ : ∃ q, (p.f.tok.getD k 0 != 0) = q := ⟨_, rfl⟩
      have hst : tokB (p.f.tok.take (k + 1)) = (tokB (p.f.tok.take k) || q) := by
        unfold tokB
        rw [List.take_add_one, List.any_append, ← hq]
        congr 1
        rw [List.getElem?_eq_getElem (by rw [H16.out]; exact hlt), List.getD_eq_getElem?_getD, List.getElem?_eq_getElem (by rw [H16.out]; exact hlt)]
        simp [bne]; rfl
      have HST := Lib.hid hst
      generalize p.f.tok.getD k 0 = x at *
      generalize tokB (p.f.tok.take k) = tb at *
      clear hst
      cases tb
      · go_wp2_with (fail)
        refine ⟨⟨k + 1, by go_num, by omega, trivial, ?_⟩, by simp [intOf]; omega⟩
        rw [HST.out]; rfl
      · go_wp2_with (fail)
        refine ⟨⟨k + 1, by go_num, by omega, trivial, ?_⟩, by simp [intOf]; omega⟩
        rw [HST.out]; rfl
    obtain rfl : k = 16 := by omega
    have HTK := Lib.hid (show tokB (p.f.tok.take 16) = tokB p.f.tok by rw [List.take_of_length_le (by rw [H16.out]; exact Nat.le_refl _)])
    generalize tokB (p.f.tok.take 16) = tk at *
    have h16i : ((16 : Nat) : Int) = 16 := rfl
    rw [h16i]
    clear h16i
    go_upto_region 12 with (fail)
    refine wp_region_list ?_
    refine wpList_join (α := Value × Value × Value × Value × Value × Value × Value × Value × Value × Value × Value × Value × Value × Value × Value) 16 (fun x : Value × Value × Value × Value × Value × Value × Value × Value × Value × Value × Value × Value × Value × Value × Value => [(55, x.1), (56, x.2.1), (57, x.2.2.1), (58, x.2.2.2.1), (59, x.2.2.2.2.1), (60, x.2.2.2.2.2.1), (61, x.2.2.2.2.2.2.1), (62, x.2.2.2.2.2.2.2.1), (63, x.2.2.2.2.2.2.2.2.1), (64, x.2.2.2.2.2.2.2.2.2.1), (65, x.2.2.2.2.2.2.2.2.2.2.1), (66, x.2.2.2.2.2.2.2.2.2.2.2.1), (67, x.2.2.2.2.2.2.2.2.2.2.2.2.1), (68, x.2.2.2.2.2.2.2.2.2.2.2.2.2.1), (69, x.2.2.2.2.2.2.2.2.2.2.2.2.2.2), (70, .bool (q6 || q7 || q8))]) ?_ ?_
    rotate_left
    · intro R hR
      simp only [meet_laws, Prod.forall] at hR ⊢
      have hQ := Lib.hid hR
      clear hR
      cases q6
      · cases q7
        · go_wp2_with (fail)
          exact hQ.out _ _ _ _ _ _ _ _ _ _ _ _ _ _ _
        · go_wp2_with (fail)
          exact hQ.out _ _ _ _ _ _ _ _ _ _ _ _ _ _ _
      · go_wp2_with (fail)
        exact hQ.out _ _ _ _ _ _ _ _ _ _ _ _ _ _ _
    simp only [meet_laws, Prod.forall]
    intro x4_0 x4_1 x4_2 x4_3 x4_4 x4_5 x4_6 x4_7 x4_8 x4_9 x4_10 x4_11 x4_12 x4_13 x4_14
    go_upto_region 13 with (fail)
    refine wp_region_list ?_
    simp only [List.append_eq, List.cons_append, List.nil_append]
    obtain ⟨b6, hb6⟩ : ∃ b, (bA || bE) = b := ⟨_, rfl⟩
    have Gb6 := Lib.hid hb6
    rw [hb6]
    clear hb6
    obtain ⟨b7, hb7⟩ : ∃ b, (bi || bS) = b := ⟨_, rfl⟩
    have Gb7 := Lib.hid hb7
    rw [hb7]
    clear hb7
    obtain ⟨b8, hb8⟩ : ∃ b, (bo || bS) = b := ⟨_, rfl⟩
    have Gb8 := Lib.hid hb8
    rw [hb8]
    clear hb8
    obtain ⟨b9, hb9⟩ : ∃ b, (bd || bD || bS) = b := ⟨_, rfl⟩
    have Gb9 := Lib.hid hb9
    rw [hb9]
    clear hb9
    obtain ⟨ec, hec⟩ : ∃ b, (q6 || q7 || q8) = b := ⟨_, rfl⟩
    have Gec := Lib.hid hec
    rw [hec]
    clear hec
    refine wpList_join (α := Value × Value × Value × Value × Value × Value) 7 (fun x : Value × Value × Value × Value × Value × Value => [(71, x.1), (72, x.2.1), (73, x.2.2.1), (74, x.2.2.2.1), (75, x.2.2.2.2.1), (76, x.2.2.2.2.2), (77, .bool (!b7 && q0))]) ?_ ?_
    rotate_left
    · intro R hR
      simp only [meet_laws, Prod.forall] at hR ⊢
      have hQ := Lib.hid hR
      clear hR
      cases b7
      · go_wp2_with (fail)
        exact hQ.out _ _ _ _ _ _
      · go_wp2_with (fail)
        exact hQ.out _ _ _ _ _ _
    simp only [meet_laws, Prod.forall]
    intro x5_0 x5_1 x5_2 x5_3 x5_4 x5_5
    obtain ⟨v0, hv0⟩ : ∃ v, (!b7 && q0) = v := ⟨_, rfl⟩
    have HV0 := Lib.hid hv0
    rw [hv0]
    clear hv0
    refine wpList_join (α := Value × Value × Value × Value × Value × Value × Value × Value) 9 (fun x : Value × Value × Value × Value × Value × Value × Value × Value => [(78, x.1), (79, x.2.1), (80, x.2.2.1), (81, x.2.2.2.1), (82, x.2.2.2.2.1), (83, x.2.2.2.2.2.1), (84, x.2.2.2.2.2.2.1), (85, x.2.2.2.2.2.2.2), (86, .bool (v0 || (!b8 && q1)))]) ?_ ?_
    rotate_left
    · intro R hR
      simp only [meet_laws, Prod.forall] at hR ⊢
      have hQ := Lib.hid hR
      clear hR
      cases v0
      · cases b8
        · go_wp2_with (fail)
          exact hQ.out _ _ _ _ _ _ _ _
        · go_wp2_with (fail)
          exact hQ.out _ _ _ _ _ _ _ _
      · go_wp2_with (fail)
        exact hQ.out _ _ _ _ _ _ _ _
    simp only [meet_laws, Prod.forall]
    intro x6_0 x6_1 x6_2 x6_3 x6_4 x6_5 x6_6 x6_7
    obtain ⟨v1, hv1⟩ : ∃ v, (v0 || (!b8 && q1)) = v := ⟨_, rfl⟩
    have HV1 := Lib.hid hv1
    rw [hv1]
    clear hv1
    refine wpList_join (α := Value × Value × Value × Value × Value × Value × Value × Value × Value) 10 (fun x : Value × Value × Value × Value × Value × Value × Value × Value × Value => [(87, x.1), (88, x.2.1), (89, x.2.2.1), (90, x.2.2.2.1), (91, x.2.2.2.2.1), (92, x.2.2.2.2.2.1), (93, x.2.2.2.2.2.2.1), (94, x.2.2.2.2.2.2.2.1), (95, x.2.2.2.2.2.2.2.2), (96, .bool (v1 || (!bm && q2)))]) ?_ ?_
    rotate_left
    · intro R hR
      simp only [meet_laws, Prod.forall] at hR ⊢
      have hQ := Lib.hid hR
      clear hR
      cases v1
      · go_wp2_with (fail)
        refine (HH.out 109 _).mono ?_
        rw [HB.out.2.2.2.2.2.2.1]
        rintro e w2 ⟨rfl, rfl⟩
        cases bm
        · go_wp2_with (fail)
          exact hQ.out _ _ _ _ _ _ _ _ _
        · go_wp2_with (fail)
          exact hQ.out _ _ _ _ _ _ _ _ _
      · go_wp2_with (fail)
        exact hQ.out _ _ _ _ _ _ _ _ _
    simp only [meet_laws, Prod.forall]
    intro x7_0 x7_1 x7_2 x7_3 x7_4 x7_5 x7_6 x7_7 x7_8
    obtain ⟨v2, hv2⟩ : ∃ v, (v1 || (!bm && q2)) = v := ⟨_, rfl⟩
    have HV2 := Lib.hid hv2
    rw [hv2]
    clear hv2
    refine wpList_join (α := Value × Value × Value × Value × Value × Value × Value × Value × Value) 10 (fun x : Value × Value × Value × Value × Value × Value × Value × Value × Value => [(97, x.1), (98, x.2.1), (99, x.2.2.1), (100, x.2.2.2.1), (101, x.2.2.2.2.1), (102, x.2.2.2.2.2.1), (103, x.2.2.2.2.2.2.1), (104, x.2.2.2.2.2.2.2.1), (105, x.2.2.2.2.2.2.2.2), (106, .bool (v2 || (!bc && q3)))]) ?_ ?_
    rotate_left
    · intro R hR
      simp only [meet_laws, Prod.forall] at hR ⊢
      have hQ := Lib.hid hR
      clear hR
      cases v2
      · go_wp2_with (fail)
        refine (HH.out 99 _).mono ?_
        rw [HB.out.2.2.2.2.2.2.2.1]
        rintro e w2 ⟨rfl, rfl⟩
        cases bc
        · go_wp2_with (fail)
          exact hQ.out _ _ _ _ _ _ _ _ _
        · go_wp2_with (fail)
          exact hQ.out _ _ _ _ _ _ _ _ _
      · go_wp2_with (fail)
        exact hQ.out _ _ _ _ _ _ _ _ _
    simp only [meet_laws, Prod.forall]
    intro x8_0 x8_1 x8_2 x8_3 x8_4 x8_5 x8_6 x8_7 x8_8
    obtain ⟨v3, hv3⟩ : ∃ v, (v2 || (!bc && q3)) = v := ⟨_, rfl⟩
    have HV3 := Lib.hid hv3
    rw [hv3]
    clear hv3
    refine wpList_join (α := Value × Value × Value × Value × Value × Value × Value × Value) 9 (fun x : Value × Value × Value × Value × Value × Value × Value × Value => [(107, x.1), (108, x.2.1), (109, x.2.2.1), (110, x.2.2.2.1), (111, x.2.2.2.2.1), (112, x.2.2.2.2.2.1), (113, x.2.2.2.2.2.2.1), (114, x.2.2.2.2.2.2.2), (115, .bool (v3 || (!bP && q4)))]) ?_ ?_
    rotate_left
    · intro R hR
      simp only [meet_laws, Prod.forall] at hR ⊢
      have hQ := Lib.hid hR
      clear hR
      cases v3
      · go_wp2_with (with_reducible refine stop_neq ?_)
        refine Stop.out ?_
        refine wpList_nev rfl rfl bP rfl rfl HB.out.2.2.2.1 ?_
        cases bP
        · go_wp2_with (fail)
          exact hQ.out _ _ _ _ _ _ _ _
        · go_wp2_with (fail)
          exact hQ.out _ _ _ _ _ _ _ _
      · go_wp2_with (fail)
        exact hQ.out _ _ _ _ _ _ _ _
    simp only [meet_laws, Prod.forall]
    intro x9_0 x9_1 x9_2 x9_3 x9_4 x9_5 x9_6 x9_7
    obtain ⟨v4, hv4⟩ : ∃ v, (v3 || (!bP && q4)) = v := ⟨_, rfl⟩
    have HV4 := Lib.hid hv4
    rw [hv4]
    clear hv4
    refine wpList_join (α := Value × Value × Value × Value × Value × Value × Value) 8 (fun x : Value × Value × Value × Value × Value × Value × Value => [(116, x.1), (117, x.2.1), (118, x.2.2.1), (119, x.2.2.2.1), (120, x.2.2.2.2.1), (121, x.2.2.2.2.2.1), (122, x.2.2.2.2.2.2), (123, .bool (v4 || (!bS && p.f.fin)))]) ?_ ?_
    rotate_left
    · intro R hR
      simp only [meet_laws, Prod.forall] at hR ⊢
      have hQ := Lib.hid hR
      clear hR
      cases v4
      · cases bS
        · go_wp2_with (fail)
          exact hQ.out _ _ _ _ _ _ _
        · go_wp2_with (fail)
          exact hQ.out _ _ _ _ _ _ _
      · go_wp2_with (fail)
        exact hQ.out _ _ _ _ _ _ _
    simp only [meet_laws, Prod.forall]
    intro x10_0 x10_1 x10_2 x10_3 x10_4 x10_5 x10_6
    obtain ⟨v5, hv5⟩ : ∃ v, (v4 || (!bS && p.f.fin)) = v := ⟨_, rfl⟩
    have HV5 := Lib.hid hv5
    rw [hv5]
    clear hv5
    refine wpList_join (α := Value × Value × Value × Value × Value × Value × Value × Value × Value) 10 (fun x : Value × Value × Value × Value × Value × Value × Value × Value × Value => [(124, x.1), (125, x.2.1), (126, x.2.2.1), (127, x.2.2.2.1), (128, x.2.2.2.2.1), (129, x.2.2.2.2.2.1), (130, x.2.2.2.2.2.2.1), (131, x.2.2.2.2.2.2.2.1), (132, x.2.2.2.2.2.2.2.2), (133, .bool (v5 || (!b9 && qd)))]) ?_ ?_
    rotate_left
    · intro R hR
      simp only [meet_laws, Prod.forall] at hR ⊢
      have hQ := Lib.hid hR
      clear hR
      cases v5
      · cases b9
        · go_wp2_with (fail)
          exact hQ.out _ _ _ _ _ _ _ _ _
        · go_wp2_with (fail)
          exact hQ.out _ _ _ _ _ _ _ _ _
      · go_wp2_with (fail)
        exact hQ.out _ _ _ _ _ _ _ _ _
    simp only [meet_laws, Prod.forall]
    intro x11_0 x11_1 x11_2 x11_3 x11_4 x11_5 x11_6 x11_7 x11_8
    obtain ⟨v6, hv6⟩ : ∃ v, (v5 || (!b9 && qd)) = v := ⟨_, rfl⟩
    have HV6 := Lib.hid hv6
    rw [hv6]
    clear hv6
    refine wpList_join (α := Value × Value × Value × Value × Value × Value × Value × Value × Value × Value × Value × Value) 13 (fun x : Value × Value × Value × Value × Value × Value × Value × Value × Value × Value × Value × Value => [(134, x.1), (135, x.2.1), (136, x.2.2.1), (137, x.2.2.2.1), (138, x.2.2.2.2.1), (139, x.2.2.2.2.2.1), (140, x.2.2.2.2.2.2.1), (141, x.2.2.2.2.2.2.2.1), (142, x.2.2.2.2.2.2.2.2.1), (143, x.2.2.2.2.2.2.2.2.2.1), (144, x.2.2.2.2.2.2.2.2.2.2.1), (145, x.2.2.2.2.2.2.2.2.2.2.2), (146, .bool (v6 || (!bC && (qc || tk))))]) ?_ ?_
    rotate_left
    · intro R hR
      simp only [meet_laws, Prod.forall] at hR ⊢
      have hQ := Lib.hid hR
      clear hR
      cases v6
      · cases bC
        · cases qc
          · go_wp2_with (fail)
            exact hQ.out _ _ _ _ _ _ _ _ _ _ _ _
          · go_wp2_with (fail)
            exact hQ.out _ _ _ _ _ _ _ _ _ _ _ _
        · go_wp2_with (fail)
          exact hQ.out _ _ _ _ _ _ _ _ _ _ _ _
      · go_wp2_with (fail)
        exact hQ.out _ _ _ _ _ _ _ _ _ _ _ _
    simp only [meet_laws, Prod.forall]
    intro x12_0 x12_1 x12_2 x12_3 x12_4 x12_5 x12_6 x12_7 x12_8 x12_9 x12_10 x12_11
    obtain ⟨v7, hv7⟩ : ∃ v, (v6 || (!bC && (qc || tk))) = v := ⟨_, rfl⟩
    have HV7 := Lib.hid hv7
    rw [hv7]
    clear hv7
    refine wpList_join (α := Value × Value × Value × Value × Value × Value × Value × Value × Value × Value × Value × Value × Value × Value) 15 (fun x : Value × Value × Value × Value × Value × Value × Value × Value × Value × Value × Value × Value × Value × Value => [(147, x.1), (148, x.2.1), (149, x.2.2.1), (150, x.2.2.2.1), (151, x.2.2.2.2.1), (152, x.2.2.2.2.2.1), (153, x.2.2.2.2.2.2.1), (154, x.2.2.2.2.2.2.2.1), (155, x.2.2.2.2.2.2.2.2.1), (156, x.2.2.2.2.2.2.2.2.2.1), (157, x.2.2.2.2.2.2.2.2.2.2.1), (158, x.2.2.2.2.2.2.2.2.2.2.2.1), (159, x.2.2.2.2.2.2.2.2.2.2.2.2.1), (160, x.2.2.2.2.2.2.2.2.2.2.2.2.2), (161, .bool (v7 || (!b6 && (qa || q5))))]) ?_ ?_
    rotate_left
    · intro R hR
      simp only [meet_laws, Prod.forall] at hR ⊢
      have hQ := Lib.hid hR
      clear hR
      cases v7
      · cases b6
        · cases qa
          · go_wp2_with (fail)
            exact hQ.out _ _ _ _ _ _ _ _ _ _ _ _ _ _
          · go_wp2_with (fail)
            exact hQ.out _ _ _ _ _ _ _ _ _ _ _ _ _ _
        · go_wp2_with (fail)
          exact hQ.out _ _ _ _ _ _ _ _ _ _ _ _ _ _
      · go_wp2_with (fail)
        exact hQ.out _ _ _ _ _ _ _ _ _ _ _ _ _ _
    simp only [meet_laws, Prod.forall]
    intro x13_0 x13_1 x13_2 x13_3 x13_4 x13_5 x13_6 x13_7 x13_8 x13_9 x13_10 x13_11 x13_12 x13_13
    obtain ⟨v8, hv8⟩ : ∃ v, (v7 || (!b6 && (qa || q5))) = v := ⟨_, rfl⟩
    have HV8 := Lib.hid hv8
    rw [hv8]
    clear hv8
    refine wpList_join (α := Value × Value × Value × Value × Value × Value) 7 (fun x : Value × Value × Value × Value × Value × Value => [(162, x.1), (163, x.2.1), (164, x.2.2.1), (165, x.2.2.2.1), (166, x.2.2.2.2.1), (167, x.2.2.2.2.2), (168, .bool (v8 || (!bE && ec)))]) ?_ ?_
    rotate_left
    · intro R hR
      simp only [meet_laws, Prod.forall] at hR ⊢
      have hQ := Lib.hid hR
      clear hR
      cases v8
      · go_wp2_with (with_reducible refine stop_neq ?_)
        refine Stop.out ?_
        refine wpList_nev rfl rfl bE rfl rfl HB.out.2.2.1 ?_
        cases bE
        · go_wp2_with (fail)
          exact hQ.out _ _ _ _ _ _
        · go_wp2_with (fail)
          exact hQ.out _ _ _ _ _ _
      · go_wp2_with (fail)
        exact hQ.out _ _ _ _ _ _
    simp only [meet_laws, Prod.forall]
    intro x14_0 x14_1 x14_2 x14_3 x14_4 x14_5
    obtain ⟨v9, hv9⟩ : ∃ v, (v8 || (!bE && ec)) = v := ⟨_, rfl⟩
    have HV9 := Lib.hid hv9
    rw [hv9]
    clear hv9
    go_wp2_with (fail)
    go_returns
    refine ⟨?_, K1.out⟩
    obtain rfl := HV9.out
    obtain rfl := HV8.out
    obtain rfl := HV7.out
    obtain rfl := HV6.out
    obtain rfl := HV5.out
    obtain rfl := HV4.out
    obtain rfl := HV3.out
    obtain rfl := HV2.out
    obtain rfl := HV1.out
    obtain rfl := HV0.out
    obtain rfl := Gb6.out
    obtain rfl := Gb7.out
    obtain rfl := Gb8.out
    obtain rfl := Gb9.out
    obtain rfl := Gec.out
    rw [← HR.out]
    unfold spareB sp0 sp1 sp2 sp3 sp4 sp5 sp6 sp7 sp8 sp9
    rw [HB.out.1, HB.out.2.1, HB.out.2.2.1, HB.out.2.2.2.1, HB.out.2.2.2.2.1, HB.out.2.2.2.2.2.1, HB.out.2.2.2.2.2.2.1, HB.out.2.2.2.2.2.2.2.1, HB.out.2.2.2.2.2.2.2.2.1, HB.out.2.2.2.2.2.2.2.2.2.1, HB.out.2.2.2.2.2.2.2.2.2.2, hq0, hq1, hq2, hq3, hq4, hq5, hq6, hq7, hq8, hqd, hqc, hqa, HTK.out]
    rfl
end Frm
end Go.Proofs.Ytcpjehgoeibbeaa
